/- slices.Contains at a []int of the call's own. -/
import Derived.Test.YtipgcdpmkpjokaaDoorDown
import Derived.Test.YtipgcdpmkpjokaaDoorShelf
namespace Go.Proofs.YtipgcdpmkpjokaaDoor
set_option linter.unusedSimpArgs false
set_option linter.unusedVariables false
open Go.RowKit

theorem getD_int (l : List Int) (j : Nat) : (intCells l)[j]? = l[j]?.map (Value.int .i64) := by simp [intCells]

theorem has_int (w : World) (base : Nat) (e : TypeId) (v : Value) (l : List Int) (x : Int) (h : w.ownsRow base e 1 v l.length (intCells l)) (hl : l.length ≤ 140737488355328) :
    Calls Tryd.prog 20 #[v, .int .i64 x] w fun e w' => e = .returned (.bool (l.contains x)) ∧ w = w' := by
  have h0 := h
  rcases h.2 with ⟨rfl, h1⟩ | ⟨g, cap, cur, rfl, hb, hg, hnc, hcm, hcs, htake⟩
  · obtain rfl : l = [] := List.eq_nil_of_length_eq_zero h1
    refine (Tryd.slices_Contains_int_empty none 0 x w).mono ?_
    rintro e w' ⟨rfl, rfl⟩
    exact ⟨rfl, rfl⟩
  · refine (Tryd.slices_Contains_int g 0 l.length cap l x w (Nat.le_refl _) (by omega) (fun j hj => ?_)).mono ?_
    · have hc := h0.cellAt j (by omega)
      rw [Nat.zero_add, hc, getD_int]
      simp [hj]
    · rintro e w' ⟨rfl, rfl⟩
      rw [List.take_of_length_le (Nat.le_refl _)]
      exact ⟨rfl, rfl⟩
end Go.Proofs.YtipgcdpmkpjokaaDoor
