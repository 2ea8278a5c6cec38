/-
  DERIVED. GIVEN WITH THE SEED: THE CARDS: each row of YtdckfcpjdakjaaaDoorRows.lean that lists a variable, with what it lists TIED to the program's text (the seventh form; the later family's looks); each row that meets fmt, with fmt's text TOLD by the authors' own Lean function (tested against real Go, not proved from fmt's source: count such statements apart). THE CARD IS WHAT COUNTS. Prove the row's statement (the work); the ties are given (YtdckfcpjdakjaaaDoorTie.lean); close each card by the builder's one call (the guide's Derived/Test/ToyasCard.lean, 'card_holds'). Laid BY PROGRAM, IN A SANDBOX (cutbox-door.mjs). By AI agents, Wed Nov 11 2026. No macro, syntax, notation, axiom, sorry.
-/
import Derived.Test.YtdckfcpjdakjaaaDoorRows
import GoSem.ClaimSeven
namespace Go.Proofs.YtdckfcpjdakjaaaDoor
namespace Rows

/-- THE TIED CARD OF 'clevislaw28.SymbolNamed'. -/
def symbolNamedCard : Claim7 := { stood := { row := symbolNamedRow, standIns := [], harness := (true, "603884fc4de58e7cc028dc658acdfc0dca0358947a7e8dd00de9914aff0892d1"), looks := false }, kinds := [], alts := [], laidByText := true, laidKinds := [.data, .data, .data], laidTests := true, laidLooks := .later }
def SymbolNamedCardSaid : Prop := Claim7.holds Tryd.pinned (.plain (OpenSpec.ofChange symbolNamedSpec)) symbolNamedCard

/-- THE SECOND FORM's CARD OF 'clevislaw28.SymbolNamed'. -/
def symbolNamedUptoCard : Claim7 := { stood := { row := symbolNamedUptoRow, standIns := [], harness := (true, "603884fc4de58e7cc028dc658acdfc0dca0358947a7e8dd00de9914aff0892d1"), looks := false }, kinds := [], alts := [], laidByText := true, laidKinds := [.data, .data, .data], laidTests := true, laidLooks := .later }
def SymbolNamedUptoCardSaid : Prop := Claim7.holds Tryd.pinned (.plain (OpenSpec.upto symbolNamedSpec)) symbolNamedUptoCard
end Rows
end Go.Proofs.YtdckfcpjdakjaaaDoor
