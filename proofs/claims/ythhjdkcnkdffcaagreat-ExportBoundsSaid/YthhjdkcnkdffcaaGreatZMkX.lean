/- trie.Make: the walk. -/
import Derived.Test.YthhjdkcnkdffcaaGreatZMkT
import Derived.Test.YthhjdkcnkdffcaaGreatZMkH
namespace Go.Proofs.YthhjdkcnkdffcaaGreat
set_option linter.unusedSimpArgs false
set_option linter.unusedVariables false
open Go.RowKit
def MakeEnd (w : World) (r : List UInt8 × Int) (e : Ending) (w' : World) : Prop :=
  (∃ a cap, e = .returned (.tuple #[.slice a r.1.length cap, .int .i64 r.2]) ∧ OB w' w.heap.size 5 (.slice a r.1.length cap) r.1) ∧ Below w.heap.size w w'
theorem makeEnd_none {w w' : World} {r : List UInt8 × Int} {z : Int} (hr : r = ([], z)) (hb : Below w.heap.size w w') : MakeEnd w r (.returned (.tuple #[.slice none 0 0, .int .i64 z])) w' := by
  subst hr
  exact ⟨⟨none, 0, rfl, OB.nil _ _ _⟩, hb⟩
/-- Neighbours among the first j differ. -/
def DiffTo (s : List Exp) (j : Nat) : Prop := ∀ i x y, i + 1 < j → s[i]? = some x → s[i + 1]? = some y → x.name ≠ y.name
end Go.Proofs.YthhjdkcnkdffcaaGreat
