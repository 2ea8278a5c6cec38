/-
  DERIVED. GIVEN WITH THE SEED: THE CARDS: each row of YtjfkgdfmkofbmaaGreatDoorRows.lean that lists a variable, with what it lists TIED to the program's text (the seventh form; the later family's looks); each row that meets fmt, with fmt's text TOLD by the authors' own Lean function (tested against real Go, not proved from fmt's source: count such statements apart). THE CARD IS WHAT COUNTS. Prove the row's statement (the work); the ties are given (YtjfkgdfmkofbmaaGreatDoorTie.lean); close each card by the builder's one call (the guide's Derived/Test/ToyasCard.lean, 'card_holds'). Laid BY PROGRAM, IN A SANDBOX (cutbox-door.mjs). By AI agents, Wed Nov 11 2026. No macro, syntax, notation, axiom, sorry.
-/
import Derived.Test.YtjfkgdfmkofbmaaGreatDoorRows
import GoSem.ClaimSeven
namespace Go.Proofs.YtjfkgdfmkofbmaaGreatDoor
namespace Rows

/-- THE TIED CARD OF 'clevislaw29.BesideNil'. -/
def besideNilCard : Claim7 := { stood := { row := besideNilRow, standIns := [], harness := (true, "5257730836e8939f3129b4c4b3fe8968eb298da1f9d5b697282a5dd6a7832ad5"), looks := true }, kinds := [], alts := [], laidByText := true, laidKinds := [.data, .data, .data, .handle], laidTests := true, laidLooks := .later }
def BesideNilCardSaid : Prop := Claim7.holds Tryz.pinned (.plain (OpenSpec.ofChange besideNilSpec)) besideNilCard

/-- THE SECOND FORM's CARD OF 'clevislaw29.BesideNil'. -/
def besideNilUptoCard : Claim7 := { stood := { row := besideNilUptoRow, standIns := [], harness := (true, "5257730836e8939f3129b4c4b3fe8968eb298da1f9d5b697282a5dd6a7832ad5"), looks := true }, kinds := [], alts := [], laidByText := true, laidKinds := [.data, .data, .data, .handle], laidTests := true, laidLooks := .later }
def BesideNilUptoCardSaid : Prop := Claim7.holds Tryz.pinned (.plain (OpenSpec.upto besideNilSpec)) besideNilUptoCard
end Rows
end Go.Proofs.YtjfkgdfmkofbmaaGreatDoor
