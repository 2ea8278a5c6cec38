/- The walk of NlistMay. -/
import Derived.Test.YtdckfcpjdakjaaaMay
namespace Go.Proofs.Ytdckfcpjdakjaaa
set_option linter.unusedSimpArgs false
set_option linter.unusedVariables false
open Go.RowKit Go.Maps

theorem below_cell {B : Nat} {w w' : World} {a : Addr} {v : Value} (hb : Below B w w') (ha : a.block < B) (h : w.cell? a = some v) : w'.cell? a = some v := by
  rw [hb.cell ha]
  exact h

theorem box_below {w W w' : World} (nm : List UInt8) (sect : Int) (val : Nat) (weak : Bool) (hb : Below W.heap.size W w')
    (c0 : W.cell? ⟨w.heap.size, 0, none⟩ = some (.string (mkS nm))) (c1 : W.cell? ⟨w.heap.size, 1, none⟩ = some (.int .i64 sect)) (c2 : W.cell? ⟨w.heap.size, 2, none⟩ = some (.int .u64 val)) (c3 : W.cell? ⟨w.heap.size, 3, none⟩ = some (.bool weak)) (hl : w.heap.size < W.heap.size) (hu : Under w W) :
    w'.cell? ⟨w.heap.size, 0, none⟩ = some (.string (mkS nm)) ∧ w'.cell? ⟨w.heap.size, 1, none⟩ = some (.int .i64 sect) ∧ w'.cell? ⟨w.heap.size, 2, none⟩ = some (.int .u64 val) ∧ w'.cell? ⟨w.heap.size, 3, none⟩ = some (.bool weak) ∧ w.heap.size < w'.heap.size ∧ Under w w' :=
  ⟨below_cell hb hl c0, below_cell hb hl c1, below_cell hb hl c2, below_cell hb hl c3, Nat.lt_of_lt_of_le hl hb.size, Below.trans hu (hb.mono (Nat.le_of_lt hl))⟩

set_option maxHeartbeats 4000000 in
theorem nlist_may (w : World) (nm : List UInt8) (sect : Int) (val : Nat) (weak : Bool) :
    Calls Try.prog 5 #[.agg #[.string (mkS nm), .int .i64 sect, .int .u64 val, .bool weak]] w fun e w' => e = .returned (.bool true) ∧ Below w.heap.size w w' := by
  by_cases h1 : 400 < nm.length
  · go_enter Try.func5, Try.ntmps5
    go_wp2_with fail
    refine (nl_known _).mono ?_
    rintro e w' ⟨rfl, hb⟩
    go_wp2
    go_ret
    exact ⟨rfl, (under_alloc (under_refl w) _).trans (hb.mono (by simp))⟩
  · go_enter Try.func5, Try.ntmps5
    go_wp2_with fail
    go_region_held3 (fun w' => w'.cell? ⟨w.heap.size, 0, none⟩ = some (.string (mkS nm)) ∧ w'.cell? ⟨w.heap.size, 1, none⟩ = some (.int .i64 sect) ∧ w'.cell? ⟨w.heap.size, 2, none⟩ = some (.int .u64 val) ∧ w'.cell? ⟨w.heap.size, 3, none⟩ = some (.bool weak) ∧ w.heap.size < w'.heap.size ∧ Under w w') (simp [*, World.cell?_alloc_some, World.cell?_setCell_far, under_drew, under_refl, under_alloc])
      (first
        | (go_at_call 13; refine (nl_may _ nm sect val weak).mono ?_; rintro e w' ⟨rfl, hb⟩; obtain ⟨k0, k1, k2, k3, kl, ku⟩ := box_below (w := w) nm sect val weak hb (by simp [*]) (by simp [*]) (by simp [*]) (by simp [*]) (by simp [*]) (by simp [*, under_drew, under_alloc, under_refl]); clear hb)
        | (go_at_call 14; refine (ref_may _ nm sect val weak).mono ?_; rintro e w' ⟨rfl, hb⟩; obtain ⟨k0, k1, k2, k3, kl, ku⟩ := box_below (w := w) nm sect val weak hb (by simp [*]) (by simp [*]) (by simp [*]) (by simp [*]) (by simp [*]) (by simp [*, under_drew, under_alloc, under_refl]); clear hb)
        | (go_at_call 9; refine (nl_known _).mono ?_; rintro e w' ⟨rfl, hb⟩; obtain ⟨k0, k1, k2, k3, kl, ku⟩ := box_below (w := w) nm sect val weak hb (by simp [*]) (by simp [*]) (by simp [*]) (by simp [*]) (by simp [*]) (by simp [*, under_drew, under_alloc, under_refl]); clear hb))
    go_wp2
    go_ret
    exact ⟨rfl, ku⟩

end Go.Proofs.Ytdckfcpjdakjaaa
