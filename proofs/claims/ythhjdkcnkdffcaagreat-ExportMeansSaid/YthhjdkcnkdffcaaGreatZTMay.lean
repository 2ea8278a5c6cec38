/- Which exports may be: the program's May. -/
import Derived.Test.YthhjdkcnkdffcaaGreatZAllE
import Derived.Deep.RegionHeld3
namespace Go.Proofs.YthhjdkcnkdffcaaGreat
set_option linter.unusedSimpArgs false
set_option linter.unusedVariables false
open Go.RowKit
/-- May a text stand there, of so many bytes at least? -/
def textB (s : List UInt8) (least : Nat) : Bool := decide (least ≤ s.length ∧ s.length ≤ 255 ∧ nul s = s.length)
/-- May an export be? -/
def kindB (x : Exp) : Bool :=
  if x.kind = 1 ∨ x.kind = 2 then decide (x.resolver = 0 ∧ x.ordinal = 0 ∧ x.other = [])
  else if x.kind = 3 then decide (x.value = 0 ∧ x.resolver = 0)
  else if x.kind = 4 then decide (x.ordinal = 0 ∧ x.other = [])
  else false
def mayE (x : Exp) : Bool := kindB x && textB x.name 1 && textB x.other 0
end Go.Proofs.YthhjdkcnkdffcaaGreat
