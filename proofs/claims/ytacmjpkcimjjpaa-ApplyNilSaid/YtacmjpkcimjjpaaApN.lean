/- ApplyNil's walk. -/
import Derived.Test.YtacmjpkcimjjpaaApK
namespace Go.Proofs.Ytacmjpkcimjjpaa
set_option linter.unusedSimpArgs false
set_option linter.unusedVariables false
open Go.RowKit Go.Maps

set_option maxHeartbeats 1000000 in
theorem tg_nil (w : World) (f : Fx) (flat : Bool) (i : Int) :
    Calls Try.prog 5 #[.pointer none, .bool flat, .int .i64 i, f.v] w fun e w' => e = .returned (.tuple #[.agg #[.int .i64 0, .int .u64 0], .bool false, .int .i64 1]) ∧ Below w.heap.size w w' := by
  unfold Fx.v
  go_enter Try.func5, Try.ntmps5
  go_wp2_with fail
  exact bodyPost_ret (v := .tuple #[.agg #[.int .i64 0, .int .u64 0], .bool false, .int .i64 1]) (by simp [results, Try.results5, go_sem]) rfl ⟨rfl, ((Below.refl _ _).alloc (Nat.le_refl _) _).alloc (by simp) _⟩

set_option maxHeartbeats 1000000 in
theorem all_nil (w : World) :
    Calls Try.prog 6 #[.pointer none, .pointer none, .slice none 0 0, .bool false, .slice none 0 0] w fun e w' => e = .returned (.tuple #[.int .i64 0, .int .i64 0, .int .i64 1]) ∧ Below w.heap.size w w' := by
  go_enter Try.func6, Try.ntmps6
  go_wp2_with fail
  go_ret3
  exact ⟨rfl, ((((Below.refl _ _).alloc (Nat.le_refl _) _).alloc (by simp) _).alloc (by simp; omega) _).alloc (by simp; omega) _⟩

def nilF : Fx := ⟨0, 2, 0, 0, [120], 0, false⟩
def zeroF : Fx := ⟨0, 0, 0, 0, [], 0, false⟩
theorem nilF_may : mayF nilF = true := by decide
theorem zeroF_apE : apE [] zeroF 0 = 2 := by decide
theorem zeroF_in : zeroF.In := ⟨by decide, by decide, by decide, by decide⟩

structure NilW (w W : World) : Prop where
  row : RowAt W w.heap.size 25 nilF.cells
  bel : Below w.heap.size w W

theorem NilW.next {w W W' : World} (h : NilW w W) (hb : Below W.heap.size W W') : NilW w W' := ⟨h.row.below hb, h.bel.trans (hb.mono h.bel.size)⟩
theorem NilW.alloc {w W : World} (h : NilW w W) (o : Obj) : NilW w (W.alloc o) := h.next ((Below.refl _ _).alloc (Nat.le_refl _) _)

set_option maxHeartbeats 2000000 in
theorem ap_law_nil (w : World) : Calls Try.prog 3 #[] w fun e w' => e = .returned (.bool true) ∧ Below w.heap.size w w' := by
  have h0 : NilW w (w.alloc (.cells nilF.cells 25)) := ⟨heap_alloc_new _ _, (Below.refl _ _).alloc (Nat.le_refl _) _⟩
  have H0 := hid h0
  clear h0
  go_enter Try.func3, Try.ntmps3
  go_wp2_with fail
  refine (tg_nil _ nilF false 0).mono ?_
  rintro e w1 ⟨rfl, hb⟩
  have H1 := hid (H0.out.next hb)
  obtain ⟨c0, c1, c2, c3, c4, c5, c6⟩ := Fx.at7 H1.out.row
  clear hb
  go_wp2_with fail
  refine (all_nil _).mono ?_
  rintro e w2 ⟨rfl, hb⟩
  have H2 := hid ((H1.out.alloc _).next hb)
  obtain ⟨d0, d1, d2, d3, d4, d5, d6⟩ := Fx.at7 H2.out.row
  clear hb c0 c1 c2 c3 c4 c5 c6
  go_wp2_with fail
  refine (ap_nil _ nilF 0 0 true).mono ?_
  rintro e w3 ⟨rfl, hb⟩
  have H3 := hid (H2.out.next hb)
  clear hb d0 d1 d2 d3 d4 d5 d6
  go_wp2_with fail
  refine (sp_new _).mono ?_
  rintro e w4 ⟨s, b, rfl, hsp, hs, hb, hbel⟩
  have H4 := hid (And.intro (H3.out.next hbel) hsp)
  clear hsp hs hb hbel
  go_wp2_with fail
  refine (ap_write w4 s b [] zeroF 0 0 true H4.out.2 (by decide) zeroF_in (by decide) (by decide)).mono ?_
  rintro e w5 ⟨rfl, hsp, hf⟩
  rw [zeroF_apE]
  have H5 := hid (H4.out.1.next (hf.below (fun g hg => by cases hg) (Nat.le_refl _)))
  obtain ⟨c0, c1, c2, c3, c4, c5, c6⟩ := Fx.at7 H5.out.row
  clear hsp hf
  go_wp2_with fail
  refine (ref_fxmay _ nilF (by decide)).mono ?_
  rintro e w6 ⟨rfl, hb⟩
  rw [nilF_may]
  have H6 := hid (H5.out.next hb)
  clear hb c0 c1 c2 c3 c4 c5 c6
  go_wp2_with fail
  refine (ap_known _).mono ?_
  rintro e w7 ⟨rfl, hb⟩
  have H7 := hid (H6.out.next hb)
  clear hb
  go_wp2_with fail
  go_ret
  exact ⟨rfl, H7.out.bel⟩
end Go.Proofs.Ytacmjpkcimjjpaa
