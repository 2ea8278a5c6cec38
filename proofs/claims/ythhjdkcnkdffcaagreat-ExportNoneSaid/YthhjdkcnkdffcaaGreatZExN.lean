/- The walk of ExportNone. -/
import Derived.Test.YthhjdkcnkdffcaaGreatZExK
namespace Go.Proofs.YthhjdkcnkdffcaaGreat
set_option linter.unusedSimpArgs false
set_option linter.unusedVariables false
open Go.RowKit
attribute [local go_sem ↓] old_img old_simg old_cimg old_sexp old_lexp
attribute [local go_sem] big_img big_simg big_cimg big_sexp big_lexp
attribute [local go_sem] fullA_last setRow_last rowA_older

theorem all_none : allX [] [] [] = ([], 0) := by kernel_rfl
theorem find_none (name : List UInt8) : findX [] [] [] name = (Exp.zero, false, 0) := by
  unfold findX srcF
  rw [if_neg (by simp), if_neg (by simp)]
  rfl
def ax3 : Exp := ⟨[], 3, false, 5, 0, 0, []⟩
def ax2 : Exp := ⟨[], 2, false, 5, 0, 0, []⟩
theorem at_ax3 : atX ax3 9 = 0 := by kernel_rfl
theorem at_ax2 : atX ax2 9 = 5 := by kernel_rfl

set_option maxHeartbeats 4000000 in
set_option maxRecDepth 4000 in
theorem ex_law_none (w : World) : Calls Tryz.prog 6 #[] w fun e w' => e = .returned (.bool true) ∧ Below w.heap.size w w' := by
  go_enter Tryz.func6, Tryz.ntmps6
  go_wp2_with fail
  refine (ex_plain_n w none none none 0 0 0 0 0 0 [] [] [] (bs_nil _) (bs_nil _) (bs_nil _) (by omega) (by omega) (by omega)).mono ?_
  rintro e w1 ⟨p, n, d, I, rfl, hP⟩
  have hIok := hP.img.ok
  obtain ⟨W1, hW1⟩ : ∃ W, W = w1.alloc (.cells I 38) := ⟨_, rfl⟩
  have b1 : Below w1.heap.size w1 W1 := by rw [hW1]; exact (Below.refl _ _).alloc (Nat.le_refl _) _
  have hK : W1.heap[w1.heap.size]? = some (.cells I 38 (0, 0)) := by rw [hW1]; exact heap_alloc_new w1 _
  have hrow := rowA_block hK hIok.1
  have hn := hP.few
  have H1 := hid (And.intro (hP.bytes.below b1) (And.intro (hP.img.below b1) (And.intro hK (hP.below.trans (b1.mono hP.below.size)))))
  clear hP b1 hK
  go_upto_region 2 with fail
  rw [← hW1]
  clear hW1
  go_wp2_with fail
  refine (ex_all _ p n d I [] [] [] H1.out.1 H1.out.2.1 hn (fun e => absurd rfl e)).mono ?_
  rintro e w2 ⟨v2, rfl, hv2, hb2⟩
  rw [all_none] at hv2 ⊢
  dsimp only at hv2 ⊢
  obtain ⟨q2, c2, rfl⟩ := hv2.form
  have hlt1 := (Array.getElem?_eq_some_iff.1 H1.out.2.2.1).1
  have hK2 := (hb2.block _ hlt1).trans H1.out.2.2.1
  have hrow2 := rowA_block hK2 hIok.1
  have H2 := hid (And.intro (H1.out.1.below hb2) (And.intro (H1.out.2.1.below hb2) (And.intro hK2 (H1.out.2.2.2.trans (hb2.mono H1.out.2.2.2.size)))))
  clear hv2 hb2 hK2 hrow
  go_wp2_with fail
  refine (ex_find _ p n d I [] [] [] [97] H2.out.1 H2.out.2.1 hn (fun e => absurd rfl e)).mono ?_
  rintro e w3 ⟨rfl, hb3⟩
  rw [find_none]
  dsimp only
  have hok := expOk Exp.zero
  obtain ⟨W3, hW3⟩ : ∃ W, W = w3.alloc (.cells Exp.zero.cells.toArray 25) := ⟨_, rfl⟩
  have b3 : Below w3.heap.size w3 W3 := by rw [hW3]; exact (Below.refl _ _).alloc (Nat.le_refl _) _
  have hlt2 := (Array.getElem?_eq_some_iff.1 H2.out.2.2.1).1
  have hb23 := hb3.trans (b3.mono hb3.size)
  have hK3 := (hb23.block _ hlt2).trans H2.out.2.2.1
  have hrow3 := rowA_block hK3 hIok.1
  have H3 := hid (And.intro (H2.out.2.1.below hb23) (And.intro hK3 (H2.out.2.2.2.trans (hb23.mono H2.out.2.2.2.size))))
  clear hb3 b3 hb23 hK3 hrow2
  go_upto_region 4 with fail
  rw [← hW3]
  clear hW3
  go_wp2_with fail
  refine (ex_at _ I 0 0 0 ax3 9 H3.out.1).mono ?_
  rintro e w4 ⟨rfl, hb4⟩
  rw [at_ax3]
  have hlt3 := (Array.getElem?_eq_some_iff.1 H3.out.2.1).1
  have hK4 := (hb4.block _ hlt3).trans H3.out.2.1
  have hrow4 := rowA_block hK4 hIok.1
  have H4 := hid (And.intro (H3.out.1.below hb4) (And.intro hK4 (H3.out.2.2.trans (hb4.mono H3.out.2.2.size))))
  clear hb4 hK4 hrow3
  go_wp2_with fail
  refine (ex_at _ I 0 0 0 ax2 9 H4.out.1).mono ?_
  rintro e w5 ⟨rfl, hb5⟩
  rw [at_ax2]
  have H5 := hid (H4.out.2.2.trans (hb5.mono H4.out.2.2.size))
  clear hb5 hrow4
  go_wp2_with fail
  refine (ex_known _).mono ?_
  rintro e w6 ⟨rfl, hb6⟩
  have H6 := hid (H5.out.trans (hb6.mono H5.out.size))
  clear hb6
  go_wp2_with fail
  go_ret
  exact ⟨rfl, H6.out⟩
end Go.Proofs.YthhjdkcnkdffcaaGreat
