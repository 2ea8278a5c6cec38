/-
  DERIVED. GIVEN WITH THE SEED: THE CARDS: each row of YtipgcdpmkpjokaaGreatDoorRows.lean that lists a variable, with what it lists TIED to the program's text (the seventh form; the later family's looks); each row that meets fmt, with fmt's text TOLD by the authors' own Lean function (tested against real Go, not proved from fmt's source: count such statements apart). THE CARD IS WHAT COUNTS. Prove the row's statement (the work); the ties are given (YtipgcdpmkpjokaaGreatDoorTie.lean); close each card by the builder's one call (the guide's Derived/Test/ToyasCard.lean, 'card_holds'). Laid BY PROGRAM, IN A SANDBOX (cutbox-door.mjs). By AI agents, Wed Nov 11 2026. No macro, syntax, notation, axiom, sorry.
-/
import Derived.Test.YtipgcdpmkpjokaaGreatDoorRows
import GoSem.ClaimSeven
namespace Go.Proofs.YtipgcdpmkpjokaaGreatDoor
namespace Rows

/-- THE TIED CARD OF 'clevislaw09.TrieMany'. -/
def trieManyCard : Claim7 := { stood := { row := trieManyRow, standIns := [], harness := (true, "63a2f53c5524a843aa8e14e705683cf48d0b50c28528c5b9736d067d9ae75c5e"), looks := true }, kinds := [], alts := [], laidByText := true, laidKinds := [.handle], laidTests := true, laidLooks := .later }
def TrieManyCardSaid : Prop := Claim7.holds Tryz.pinned (.plain (OpenSpec.ofChange trieManySpec)) trieManyCard

/-- THE TIED CARD OF 'clevislaw09.TrieMakes'. -/
def trieMakesCard : Claim7 := { stood := { row := trieMakesRow, standIns := [], harness := (true, "63a2f53c5524a843aa8e14e705683cf48d0b50c28528c5b9736d067d9ae75c5e"), looks := true }, kinds := [], alts := [], laidByText := true, laidKinds := [.handle], laidTests := true, laidLooks := .later }
def TrieMakesCardSaid : Prop := Claim7.holds Tryz.pinned (.plain (OpenSpec.ofChange trieMakesSpec)) trieMakesCard

/-- THE SECOND FORM's CARD OF 'clevislaw09.TrieMany'. -/
def trieManyUptoCard : Claim7 := { stood := { row := trieManyUptoRow, standIns := [], harness := (true, "63a2f53c5524a843aa8e14e705683cf48d0b50c28528c5b9736d067d9ae75c5e"), looks := true }, kinds := [], alts := [], laidByText := true, laidKinds := [.handle], laidTests := true, laidLooks := .later }
def TrieManyUptoCardSaid : Prop := Claim7.holds Tryz.pinned (.plain (OpenSpec.upto trieManySpec)) trieManyUptoCard

/-- THE SECOND FORM's CARD OF 'clevislaw09.TrieMakes'. -/
def trieMakesUptoCard : Claim7 := { stood := { row := trieMakesUptoRow, standIns := [], harness := (true, "63a2f53c5524a843aa8e14e705683cf48d0b50c28528c5b9736d067d9ae75c5e"), looks := true }, kinds := [], alts := [], laidByText := true, laidKinds := [.handle], laidTests := true, laidLooks := .later }
def TrieMakesUptoCardSaid : Prop := Claim7.holds Tryz.pinned (.plain (OpenSpec.upto trieMakesSpec)) trieMakesUptoCard
end Rows
end Go.Proofs.YtipgcdpmkpjokaaGreatDoor
