/- Package trie: the last place on the way is left. -/
import Derived.Test.YthhjdkcnkdffcaaGreatZDown
import Derived.Defers
import Derived.Test.YthhjdkcnkdffcaaGreatShelf
namespace Go.Proofs.YthhjdkcnkdffcaaGreat
set_option linter.unusedSimpArgs false
set_option linter.unusedVariables false
open Go.RowKit
theorem un_ints : Tryz.prog.underlying 66 = some (.slice (Tryz.prog.elem 66)) := by kernel_rfl
theorem sz_int (w : World) : (sizeOf (Tryz.prog.elem 66)).run Tryz.prog w = .ok 1 w := by kernel_rfl
set_option maxHeartbeats 400000 in
theorem all_pop (b m cap : Nat) (g : Option Addr) (u : FrameMode) (w : World) (h : w.cell? ⟨b, 0, none⟩ = some (.slice g m cap)) (hf : w.frozen? ⟨b, 0, none⟩ = false) (h1 : 1 ≤ m) (h2 : m ≤ cap) (h3 : m ≤ 140737488355328) :
    CallsD Tryz.prog 110 #[.pointer (some ⟨b, 0, none⟩)] u w fun e u' w' => u' = u ∧ (e = .returned (.tuple #[]) ∧ w' = w.setCell ⟨b, 0, none⟩ (.slice g (m - 1) cap)) := by
  have hw : IntKind.i64.wrap ((m : Int) - 1) = (m : Int) - 1 := IntWalk.i64_in _ (by omega)
  have hs := run_subh (P := Tryz.prog) (w := w) (t := 66) g m cap un_ints (sz_int w) .i64 ((m : Int) - 1) (by omega) (by omega)
  rw [show ((m : Int) - 1).toNat = m - 1 from by omega] at hs
  go_enter_d Tryz.func110, Tryz.ntmps110
  go_wp2
  go_end0
  exact ⟨rfl, rfl⟩
end Go.Proofs.YthhjdkcnkdffcaaGreat

namespace Go.Proofs.YthhjdkcnkdffcaaGreat
set_option linter.unusedSimpArgs false
set_option linter.unusedVariables false
open Go.RowKit
theorem getD_int (l : List Int) (j : Nat) : (intCells l)[j]? = l[j]?.map (Value.int .i64) := by simp [intCells]
theorem has_int (w : World) (base : Nat) (e : TypeId) (v : Value) (l : List Int) (x : Int) (h : w.ownsRow base e 1 v l.length (intCells l)) (hl : l.length ≤ 140737488355328) :
    Calls Tryz.prog 108 #[v, .int .i64 x] w fun e w' => e = .returned (.bool (l.contains x)) ∧ w = w' := by
  have h0 := h
  rcases h.2 with ⟨rfl, h1⟩ | ⟨g, cap, cur, rfl, hb, hg, hnc, hcm, hcs, htake⟩
  · obtain rfl : l = [] := List.eq_nil_of_length_eq_zero h1
    refine (Tryz.slices_Contains_int_empty none 0 x w).mono ?_
    rintro e w' ⟨rfl, rfl⟩
    exact ⟨rfl, rfl⟩
  · refine (Tryz.slices_Contains_int g 0 l.length cap l x w (Nat.le_refl _) (by omega) (fun j hj => ?_)).mono ?_
    · have hc := h0.cellAt j (by omega)
      rw [Nat.zero_add, hc, getD_int]
      simp [hj]
    · rintro e w' ⟨rfl, rfl⟩
      rw [List.take_of_length_le (Nat.le_refl _)]
      exact ⟨rfl, rfl⟩
end Go.Proofs.YthhjdkcnkdffcaaGreat
