/- Package trie: a place; what stands while a node is read. -/
import Derived.Test.YtipgcdpmkpjokaaDoorSays
namespace Go.Proofs.YtipgcdpmkpjokaaDoor
set_option linter.unusedSimpArgs false
set_option linter.unusedVariables false
open Go.RowKit

set_option maxHeartbeats 400000 in
theorem trie_place (w : World) (n all : Nat) (hn : n < 2 ^ 64) (hall : all ≤ 140737488355328) :
    Calls Tryd.prog 45 #[.int .u64 (n : Nat), .int .i64 (all : Nat)] w fun e w' => e = .returned (.int .i64 (placeM n all)) ∧ w' = w := by
  have hw : IntKind.u64.wrap (all : Int) = (all : Int) := IntWalk.u64_in _ (by omega)
  unfold placeM
  by_cases h : all ≤ n
  · have hd := decide_eq_true h
    rw [if_pos h]
    clear h
    go_enter Tryd.func45, Tryd.ntmps45
    go_wp2
    go_ret
    exact ⟨rfl, rfl⟩
  · have hd := decide_eq_false h
    have hw2 : IntKind.i64.wrap (n : Int) = (n : Int) := IntWalk.i64_in _ (by omega)
    rw [if_neg h]
    clear h
    go_enter Tryd.func45, Tryd.ntmps45
    go_wp2
    go_ret
    exact ⟨rfl, rfl⟩
end Go.Proofs.YtipgcdpmkpjokaaDoor
