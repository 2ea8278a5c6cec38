/-
  DERIVED. GIVEN WITH THE SEED: THE CARDS: each row of YtacmjpkcimjjpaaGreatDoorRows.lean that lists a variable, with what it lists TIED to the program's text (the seventh form; the later family's looks); each row that meets fmt, with fmt's text TOLD by the authors' own Lean function (tested against real Go, not proved from fmt's source: count such statements apart). THE CARD IS WHAT COUNTS. Prove the row's statement (the work); the ties are given (YtacmjpkcimjjpaaGreatDoorTie.lean); close each card by the builder's one call (the guide's Derived/Test/ToyasCard.lean, 'card_holds'). Laid BY PROGRAM, IN A SANDBOX (cutbox-door.mjs). By AI agents, Wed Nov 11 2026. No macro, syntax, notation, axiom, sorry.
-/
import Derived.Test.YtacmjpkcimjjpaaGreatDoorRows
import GoSem.ClaimSeven
namespace Go.Proofs.YtacmjpkcimjjpaaGreatDoor
namespace Rows

/-- THE TIED CARD OF 'clevislaw08.LayMany'. -/
def layManyCard : Claim7 := { stood := { row := layManyRow, standIns := [], harness := (true, "68d1543244a9c812d1d603a7507ca1fffd51ad86343bd168b253d24e19c8a982"), looks := true }, kinds := [], alts := [], laidByText := true, laidKinds := [.handle], laidTests := true, laidLooks := .later }
def LayManyCardSaid : Prop := Claim7.holds Tryz.pinned (.plain (OpenSpec.ofChange layManySpec)) layManyCard

/-- THE TIED CARD OF 'clevislaw08.LayNil'. -/
def layNilCard : Claim7 := { stood := { row := layNilRow, standIns := [], harness := (true, "68d1543244a9c812d1d603a7507ca1fffd51ad86343bd168b253d24e19c8a982"), looks := true }, kinds := [], alts := [], laidByText := true, laidKinds := [.handle], laidTests := true, laidLooks := .later }
def LayNilCardSaid : Prop := Claim7.holds Tryz.pinned (.plain (OpenSpec.ofChange layNilSpec)) layNilCard

/-- THE TIED CARD OF 'clevislaw08.LayLays'. -/
def layLaysCard : Claim7 := { stood := { row := layLaysRow, standIns := [], harness := (true, "68d1543244a9c812d1d603a7507ca1fffd51ad86343bd168b253d24e19c8a982"), looks := true }, kinds := [], alts := [], laidByText := true, laidKinds := [.handle], laidTests := true, laidLooks := .later }
def LayLaysCardSaid : Prop := Claim7.holds Tryz.pinned (.plain (OpenSpec.ofChange layLaysSpec)) layLaysCard

/-- THE SECOND FORM's CARD OF 'clevislaw08.LayMany'. -/
def layManyUptoCard : Claim7 := { stood := { row := layManyUptoRow, standIns := [], harness := (true, "68d1543244a9c812d1d603a7507ca1fffd51ad86343bd168b253d24e19c8a982"), looks := true }, kinds := [], alts := [], laidByText := true, laidKinds := [.handle], laidTests := true, laidLooks := .later }
def LayManyUptoCardSaid : Prop := Claim7.holds Tryz.pinned (.plain (OpenSpec.upto layManySpec)) layManyUptoCard

/-- THE SECOND FORM's CARD OF 'clevislaw08.LayNil'. -/
def layNilUptoCard : Claim7 := { stood := { row := layNilUptoRow, standIns := [], harness := (true, "68d1543244a9c812d1d603a7507ca1fffd51ad86343bd168b253d24e19c8a982"), looks := true }, kinds := [], alts := [], laidByText := true, laidKinds := [.handle], laidTests := true, laidLooks := .later }
def LayNilUptoCardSaid : Prop := Claim7.holds Tryz.pinned (.plain (OpenSpec.upto layNilSpec)) layNilUptoCard

/-- THE SECOND FORM's CARD OF 'clevislaw08.LayLays'. -/
def layLaysUptoCard : Claim7 := { stood := { row := layLaysUptoRow, standIns := [], harness := (true, "68d1543244a9c812d1d603a7507ca1fffd51ad86343bd168b253d24e19c8a982"), looks := true }, kinds := [], alts := [], laidByText := true, laidKinds := [.handle], laidTests := true, laidLooks := .later }
def LayLaysUptoCardSaid : Prop := Claim7.holds Tryz.pinned (.plain (OpenSpec.upto layLaysSpec)) layLaysUptoCard
end Rows
end Go.Proofs.YtacmjpkcimjjpaaGreatDoor
