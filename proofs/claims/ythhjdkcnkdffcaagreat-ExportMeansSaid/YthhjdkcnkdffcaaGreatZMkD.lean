/- What is said of a name, as bytes: the reference's Said. -/
import Derived.Test.YthhjdkcnkdffcaaGreatZMkA
namespace Go.Proofs.YthhjdkcnkdffcaaGreat
set_option linter.unusedSimpArgs false
set_option linter.unusedVariables false
open Go.RowKit
theorem ref_put' (w : World) (z : Int) (n : Nat) (hz : z = n) (hn : n < 18446744073709551616) : Calls Tryz.prog 24 #[.int .u64 z] w (BytesEnd w (putM n)) := by
  subst hz
  exact ref_put w n hn
set_option maxHeartbeats 8000000 in
set_option maxRecDepth 100000 in
theorem rsaid_1 (w : World) (x : Exp) (hk : x.kind = 1) (hv : x.value < 18446744073709551616) (hot : x.other.length ≤ 255) :
    Calls Tryz.prog 23 #[.agg x.cells.toArray] w (BytesEnd w (saidM (some x))) := by
  have d3 : (x.kind == 3) = false := by rw [beq_eq_false_iff_ne]; omega
  have d4 : (x.kind == 4) = false := by rw [beq_eq_false_iff_ne]; omega
  have d2 : (x.kind == 2) = false := by rw [beq_eq_false_iff_ne]; omega
  obtain ⟨ib, R⟩ := u8rowX
  have hbox : BoxAt (w.alloc (.cells x.cells.toArray 25)) w.heap.size 25 x.cells.toArray := ⟨heap_alloc_new w _⟩
  have hb0 : Below w.heap.size w (w.alloc (.cells x.cells.toArray 25)) := (Below.refl _ _).alloc (Nat.le_refl _) _
  obtain ⟨F, hF⟩ : ∃ F, F = flagsM x := ⟨_, rfl⟩
  have hFw : (x.weak = true → F = 0 + 4) ∧ (x.weak = false → F = 0) := by
    constructor
    · intro h; rw [hF]; unfold flagsM; rw [h]; simp [hk]
    · intro h; rw [hF]; unfold flagsM; rw [h]; simp [hk]
  have hrb : restB x = putM x.value := by unfold restB; rw [if_neg (by omega), if_neg (by omega)]
  have hrl : (restB x).length ≤ 286 := by have := bodyM_len x; unfold bodyM at this; rw [List.length_append] at this; omega
  have hBl := bodyM_len x
  have hFb : F < 18446744073709551616 := by
    cases hw : x.weak
    · rw [hFw.2 hw]; omega
    · rw [hFw.1 hw]; omega
  have hBF : bodyM x = putM F ++ restB x := by unfold bodyM; rw [hF]
  have H := hid (And.intro R (And.intro hbox (And.intro hb0 (And.intro hFw (And.intro hrb hBF)))))
  obtain ⟨RB, hRB⟩ : ∃ RB, RB = restB x := ⟨_, rfl⟩
  obtain ⟨BM, hBM⟩ : ∃ BM, BM = bodyM x := ⟨_, rfl⟩
  have hsd : saidM (some x) = putM BM.length ++ BM := by rw [hBM]; rfl
  rw [← hRB] at hrl
  rw [← hBM] at hBl
  have HH := hid (And.intro hRB (And.intro hBM hsd))
  rw [hsd]
  clear R hbox hb0 hF hFw hrb hBF hk hRB hBM hsd
  cases hw : x.weak
  all_goals
    have hFz := (by first | exact H.out.2.2.2.1.1 hw | exact H.out.2.2.2.1.2 hw)
    have HZ := hid (show _ ∧ True from ⟨hFz, trivial⟩)
    have k1 : (w.alloc (.cells x.cells.toArray 25)).cell? ⟨w.heap.size, 1, none⟩ = some (.int .i64 x.kind) := H.out.2.1.cell 1
    have k2 : (w.alloc (.cells x.cells.toArray 25)).cell? ⟨w.heap.size, 2, none⟩ = some (.bool x.weak) := H.out.2.1.cell 2
    have k3 : (w.alloc (.cells x.cells.toArray 25)).cell? ⟨w.heap.size, 3, none⟩ = some (.int .u64 (x.value : Int)) := H.out.2.1.cell 3
    rw [hw] at k2
    clear hw hFz
    go_enter Tryz.func23, Tryz.ntmps23
    go_wp2_with fail
    refine (ref_put _ x.value hv).mono ?_
    rintro e W2 ⟨⟨a2, p2, rfl, ho2⟩, hb2⟩
    have hlV := putM_len x.value
    have hRR : putM x.value = RB := by rw [HH.out.1, H.out.2.2.2.2.1]
    rw [hRR] at ho2 ⊢
    have HR := hid (And.intro (ho2.bs (by omega)) (H.out.2.2.1.trans (hb2.mono (by simp))))
    clear ho2 hb2 k1 k2 k3 hRR hlV

    have hlF := putM_len F
    go_wp2_with fail
    refine (ref_put' _ _ F (by rw [HZ.out.1]; first | rfl | omega) hFb).mono ?_
    rintro e W4 ⟨⟨a4, p4, rfl, ho4⟩, hb4⟩
    have H4 := hid (And.intro (ho4.base HR.out.2.size) (And.intro (HR.out.1.below hb4) (HR.out.2.trans (hb4.mono HR.out.2.size))))
    clear ho4 hb4
    go_wp2_with (at_builtin; refine wpList_bytes H.out.1 _ rfl _ _ _ rfl w.heap.size _ (putM F) rfl H4.out.1 _ RB rfl (Src.ofBS un_bsX H4.out.2.1) ?_ ?_ ?_)
    · omega
    · exact H4.out.2.2.size
    intro v5 W5 ho5 hg5
    have hBB : putM F ++ RB = BM := by rw [HH.out.1, HH.out.2.1, H.out.2.2.2.2.2]
    rw [hBB] at ho5
    have H5 := hid (And.intro ho5 (H4.out.2.2.trans (hg5.below H4.out.2.2.size (fun q hq => H4.out.1.high q hq))))
    obtain ⟨a5, p5, hv5⟩ := OB.form ho5
    subst hv5
    clear ho5 hg5 hBB
    go_wp2_with fail
    refine (ref_put' _ _ BM.length (by first | rfl | exact IntWalk.u64_in _ (by omega)) (by omega)).mono ?_
    rintro e W6 ⟨⟨a6, p6, rfl, ho6⟩, hb6⟩
    have hlB := putM_len BM.length
    have H6 := hid (And.intro (ho6.base H5.out.2.size) (And.intro ((H5.out.1.below hb6).bs (by omega)) (H5.out.2.trans (hb6.mono H5.out.2.size))))
    clear ho6 hb6
    go_wp2_with (at_builtin; refine wpList_bytes H.out.1 _ rfl _ _ _ rfl w.heap.size _ (putM BM.length) rfl H6.out.1 _ BM rfl (Src.ofBS un_bsX H6.out.2.1) ?_ ?_ ?_)
    · omega
    · exact H6.out.2.2.size
    intro v7 W7 ho7 hg7
    have H7 := hid (And.intro ho7 (H6.out.2.2.trans (hg7.below H6.out.2.2.size (fun q hq => H6.out.1.high q hq))))
    clear ho7 hg7
    go_wp2_with fail
    go_ret
    obtain ⟨a7, c7, hv7⟩ := H7.out.1.form
    subst hv7
    exact ⟨⟨a7, c7, rfl, H7.out.1⟩, H7.out.2⟩
set_option maxHeartbeats 8000000 in
set_option maxRecDepth 100000 in
theorem rsaid_2 (w : World) (x : Exp) (hk : x.kind = 2) (hv : x.value < 18446744073709551616) (hot : x.other.length ≤ 255) :
    Calls Tryz.prog 23 #[.agg x.cells.toArray] w (BytesEnd w (saidM (some x))) := by
  have d3 : (x.kind == 3) = false := by rw [beq_eq_false_iff_ne]; omega
  have d4 : (x.kind == 4) = false := by rw [beq_eq_false_iff_ne]; omega
  have d2 : (x.kind == 2) = true := by rw [beq_iff_eq]; exact hk
  obtain ⟨ib, R⟩ := u8rowX
  have hbox : BoxAt (w.alloc (.cells x.cells.toArray 25)) w.heap.size 25 x.cells.toArray := ⟨heap_alloc_new w _⟩
  have hb0 : Below w.heap.size w (w.alloc (.cells x.cells.toArray 25)) := (Below.refl _ _).alloc (Nat.le_refl _) _
  obtain ⟨F, hF⟩ : ∃ F, F = flagsM x := ⟨_, rfl⟩
  have hFw : (x.weak = true → F = 2 + 4) ∧ (x.weak = false → F = 2) := by
    constructor
    · intro h; rw [hF]; unfold flagsM; rw [h]; simp [hk]
    · intro h; rw [hF]; unfold flagsM; rw [h]; simp [hk]
  have hrb : restB x = putM x.value := by unfold restB; rw [if_neg (by omega), if_neg (by omega)]
  have hrl : (restB x).length ≤ 286 := by have := bodyM_len x; unfold bodyM at this; rw [List.length_append] at this; omega
  have hBl := bodyM_len x
  have hFb : F < 18446744073709551616 := by
    cases hw : x.weak
    · rw [hFw.2 hw]; omega
    · rw [hFw.1 hw]; omega
  have hBF : bodyM x = putM F ++ restB x := by unfold bodyM; rw [hF]
  have H := hid (And.intro R (And.intro hbox (And.intro hb0 (And.intro hFw (And.intro hrb hBF)))))
  obtain ⟨RB, hRB⟩ : ∃ RB, RB = restB x := ⟨_, rfl⟩
  obtain ⟨BM, hBM⟩ : ∃ BM, BM = bodyM x := ⟨_, rfl⟩
  have hsd : saidM (some x) = putM BM.length ++ BM := by rw [hBM]; rfl
  rw [← hRB] at hrl
  rw [← hBM] at hBl
  have HH := hid (And.intro hRB (And.intro hBM hsd))
  rw [hsd]
  clear R hbox hb0 hF hFw hrb hBF hk hRB hBM hsd
  cases hw : x.weak
  all_goals
    have hFz := (by first | exact H.out.2.2.2.1.1 hw | exact H.out.2.2.2.1.2 hw)
    have HZ := hid (show _ ∧ True from ⟨hFz, trivial⟩)
    have k1 : (w.alloc (.cells x.cells.toArray 25)).cell? ⟨w.heap.size, 1, none⟩ = some (.int .i64 x.kind) := H.out.2.1.cell 1
    have k2 : (w.alloc (.cells x.cells.toArray 25)).cell? ⟨w.heap.size, 2, none⟩ = some (.bool x.weak) := H.out.2.1.cell 2
    have k3 : (w.alloc (.cells x.cells.toArray 25)).cell? ⟨w.heap.size, 3, none⟩ = some (.int .u64 (x.value : Int)) := H.out.2.1.cell 3
    rw [hw] at k2
    clear hw hFz
    go_enter Tryz.func23, Tryz.ntmps23
    go_wp2_with fail
    refine (ref_put _ x.value hv).mono ?_
    rintro e W2 ⟨⟨a2, p2, rfl, ho2⟩, hb2⟩
    have hlV := putM_len x.value
    have hRR : putM x.value = RB := by rw [HH.out.1, H.out.2.2.2.2.1]
    rw [hRR] at ho2 ⊢
    have HR := hid (And.intro (ho2.bs (by omega)) (H.out.2.2.1.trans (hb2.mono (by simp))))
    clear ho2 hb2 k1 k2 k3 hRR hlV

    have hlF := putM_len F
    go_wp2_with fail
    refine (ref_put' _ _ F (by rw [HZ.out.1]; first | rfl | omega) hFb).mono ?_
    rintro e W4 ⟨⟨a4, p4, rfl, ho4⟩, hb4⟩
    have H4 := hid (And.intro (ho4.base HR.out.2.size) (And.intro (HR.out.1.below hb4) (HR.out.2.trans (hb4.mono HR.out.2.size))))
    clear ho4 hb4
    go_wp2_with (at_builtin; refine wpList_bytes H.out.1 _ rfl _ _ _ rfl w.heap.size _ (putM F) rfl H4.out.1 _ RB rfl (Src.ofBS un_bsX H4.out.2.1) ?_ ?_ ?_)
    · omega
    · exact H4.out.2.2.size
    intro v5 W5 ho5 hg5
    have hBB : putM F ++ RB = BM := by rw [HH.out.1, HH.out.2.1, H.out.2.2.2.2.2]
    rw [hBB] at ho5
    have H5 := hid (And.intro ho5 (H4.out.2.2.trans (hg5.below H4.out.2.2.size (fun q hq => H4.out.1.high q hq))))
    obtain ⟨a5, p5, hv5⟩ := OB.form ho5
    subst hv5
    clear ho5 hg5 hBB
    go_wp2_with fail
    refine (ref_put' _ _ BM.length (by first | rfl | exact IntWalk.u64_in _ (by omega)) (by omega)).mono ?_
    rintro e W6 ⟨⟨a6, p6, rfl, ho6⟩, hb6⟩
    have hlB := putM_len BM.length
    have H6 := hid (And.intro (ho6.base H5.out.2.size) (And.intro ((H5.out.1.below hb6).bs (by omega)) (H5.out.2.trans (hb6.mono H5.out.2.size))))
    clear ho6 hb6
    go_wp2_with (at_builtin; refine wpList_bytes H.out.1 _ rfl _ _ _ rfl w.heap.size _ (putM BM.length) rfl H6.out.1 _ BM rfl (Src.ofBS un_bsX H6.out.2.1) ?_ ?_ ?_)
    · omega
    · exact H6.out.2.2.size
    intro v7 W7 ho7 hg7
    have H7 := hid (And.intro ho7 (H6.out.2.2.trans (hg7.below H6.out.2.2.size (fun q hq => H6.out.1.high q hq))))
    clear ho7 hg7
    go_wp2_with fail
    go_ret
    obtain ⟨a7, c7, hv7⟩ := H7.out.1.form
    subst hv7
    exact ⟨⟨a7, c7, rfl, H7.out.1⟩, H7.out.2⟩
set_option maxHeartbeats 8000000 in
set_option maxRecDepth 100000 in
theorem rsaid_3 (w : World) (x : Exp) (hk : x.kind = 3) (hv : x.ordinal < 18446744073709551616) (hot : x.other.length ≤ 255) :
    Calls Tryz.prog 23 #[.agg x.cells.toArray] w (BytesEnd w (saidM (some x))) := by
  have d3 : (x.kind == 3) = true := by rw [beq_iff_eq]; exact hk
  obtain ⟨ib, R⟩ := u8rowX
  have hbox : BoxAt (w.alloc (.cells x.cells.toArray 25)) w.heap.size 25 x.cells.toArray := ⟨heap_alloc_new w _⟩
  have hb0 : Below w.heap.size w (w.alloc (.cells x.cells.toArray 25)) := (Below.refl _ _).alloc (Nat.le_refl _) _
  obtain ⟨F, hF⟩ : ∃ F, F = flagsM x := ⟨_, rfl⟩
  have hFw : (x.weak = true → F = 8 + 4) ∧ (x.weak = false → F = 8) := by
    constructor
    · intro h; rw [hF]; unfold flagsM; rw [h]; simp [hk]
    · intro h; rw [hF]; unfold flagsM; rw [h]; simp [hk]
  have hrb : restB x = putM x.ordinal ++ (x.other ++ [0]) := by unfold restB; rw [if_pos hk]
  have hrl : (restB x).length ≤ 286 := by have := bodyM_len x; unfold bodyM at this; rw [List.length_append] at this; omega
  have hBl := bodyM_len x
  have hFb : F < 18446744073709551616 := by
    cases hw : x.weak
    · rw [hFw.2 hw]; omega
    · rw [hFw.1 hw]; omega
  have hBF : bodyM x = putM F ++ restB x := by unfold bodyM; rw [hF]
  have H := hid (And.intro R (And.intro hbox (And.intro hb0 (And.intro hFw (And.intro hrb hBF)))))
  obtain ⟨RB, hRB⟩ : ∃ RB, RB = restB x := ⟨_, rfl⟩
  obtain ⟨BM, hBM⟩ : ∃ BM, BM = bodyM x := ⟨_, rfl⟩
  have hsd : saidM (some x) = putM BM.length ++ BM := by rw [hBM]; rfl
  rw [← hRB] at hrl
  rw [← hBM] at hBl
  have HH := hid (And.intro hRB (And.intro hBM hsd))
  rw [hsd]
  clear R hbox hb0 hF hFw hrb hBF hk hRB hBM hsd
  cases hw : x.weak
  all_goals
    have hFz := (by first | exact H.out.2.2.2.1.1 hw | exact H.out.2.2.2.1.2 hw)
    have HZ := hid (show _ ∧ True from ⟨hFz, trivial⟩)
    have k1 : (w.alloc (.cells x.cells.toArray 25)).cell? ⟨w.heap.size, 1, none⟩ = some (.int .i64 x.kind) := H.out.2.1.cell 1
    have k2 : (w.alloc (.cells x.cells.toArray 25)).cell? ⟨w.heap.size, 2, none⟩ = some (.bool x.weak) := H.out.2.1.cell 2
    have k3 : (w.alloc (.cells x.cells.toArray 25)).cell? ⟨w.heap.size, 3, none⟩ = some (.int .u64 (x.value : Int)) := H.out.2.1.cell 3
    rw [hw] at k2
    clear hw hFz
    go_enter Tryz.func23, Tryz.ntmps23
    go_wp2_with fail
    have hlO := putM_len x.ordinal
    obtain ⟨L1, hL1⟩ : ∃ L, L = putM x.ordinal ++ x.other := ⟨_, rfl⟩
    obtain ⟨L2, hL2⟩ : ∃ L, L = L1 ++ [0] := ⟨_, rfl⟩
    have hl1 : L1.length ≤ 265 := by rw [hL1, List.length_append]; omega
    have hl2 : L2.length ≤ 266 := by rw [hL2, List.length_append]; simp; omega
    have HL := hid (And.intro hL1 hL2)
    have hRR : L2 = RB := by rw [HH.out.1, H.out.2.2.2.2.1, hL2, hL1]; simp
    have HRR := hid hRR
    clear hL1 hL2 k1 k2 k3 hRR
    have hi := H.out.2.1
    go_region_held3 (fun W => W.cell? ⟨w.heap.size, 5, none⟩ = some (.int .u64 (x.ordinal : Int)) ∧ W.cell? ⟨w.heap.size, 6, none⟩ = some (.string (mkS x.other)))
      (first | exact ⟨hi.cell 5, hi.cell 6⟩ | exact ⟨(hi.alloc _).cell 5, (hi.alloc _).cell 6⟩)
      (first
        | (go_at_call 24; (with_reducible refine (ref_put _ x.ordinal hv).mono ?_); rintro e W2 ⟨⟨a2, p2, rfl, ho2⟩, hb2⟩; have hi : BoxAt W2 w.heap.size 25 x.cells.toArray := (H.out.2.1.next (by repeat (first | exact Below.refl _ _ | refine below_drewX ?_ | refine below_drewNX ?_ _ | refine Below.alloc ?_ (by simp) _))).next hb2; have HC := hid (And.intro (ho2.base (Nat.le_trans (sz1 w _) (bsz (by repeat (first | exact Below.refl _ _ | refine below_drewX ?_ | refine below_drewNX ?_ _ | refine Below.alloc ?_ (by simp) _))))) (And.intro (belTo H.out.2.2.1 (by simp) (by repeat (first | exact Below.refl _ _ | refine below_drewX ?_ | refine below_drewNX ?_ _ | refine Below.alloc ?_ (by simp) _)) hb2) (And.intro ((Grew.refl _ (.slice a2 (putM x.ordinal).length p2)).over hb2) (And.intro ho2.high (Nat.le_trans (Nat.le_trans (sz1 w _) (bsz (by repeat (first | exact Below.refl _ _ | refine below_drewX ?_ | refine below_drewNX ?_ _ | refine Below.alloc ?_ (by simp) _)))) (bsz hb2)))))); clear ho2 hb2)
        | (refine step_bytes H.out.1 _ rfl (.tmp 19) (.tmp 21) _ rfl (w.heap.size + 1) (.slice a2 (putM x.ordinal).length p2) (putM x.ordinal) rfl ?_ (.string (mkS x.other)) x.other rfl ?_ ?_ ?_ ?_; exact HC.out.1.below (by repeat (first | exact Below.refl _ _ | refine below_drewX ?_ | refine below_drewNX ?_ _ | refine Below.alloc ?_ (by simp) _)); exact Src.ofMkS _ un_strX x.other; omega; exact Nat.le_trans HC.out.2.2.2.2 (bsz (by repeat (first | exact Below.refl _ _ | refine below_drewX ?_ | refine below_drewNX ?_ _ | refine Below.alloc ?_ (by simp) _))); intro v3 W3 ho3 hg3; rw [← HL.out.1] at ho3; obtain ⟨a3, p3, hv3⟩ := OB.form ho3; subst hv3; have hi : BoxAt W3 w.heap.size 25 x.cells.toArray := (hi.next (by repeat (first | exact Below.refl _ _ | refine below_drewX ?_ | refine below_drewNX ?_ _ | refine Below.alloc ?_ (by simp) _))).grew hg3 (fun e => by have := HC.out.1.high _ e; omega); have G3 : Grew W2 W3 _ _ := Grew.under (by repeat (first | exact Below.refl _ _ | refine below_drewX ?_ | refine below_drewNX ?_ _ | refine Below.alloc ?_ (by simp) _)) hg3; have H3 := hid (And.intro ho3 (And.intro hg3 G3)); clear ho3 hg3 G3)
        | (refine step_bytes H.out.1 _ rfl (.tmp 22) (.tmp 23) _ rfl (w.heap.size + 1) (.slice a3 L1.length p3) L1 rfl ?_ _ [0] rfl ?_ ?_ ?_ ?_; exact H3.out.1.below (by repeat (first | exact Below.refl _ _ | refine below_drewX ?_ | refine below_drewNX ?_ _ | refine Below.alloc ?_ (by simp) _)); (first | (refine Src.keptX (v := .slice none 0 0) 0 (Grew.refl _ _) ?_ ?_; (first | exact lit_cellYB _ _ _ (by simp) rfl | exact lit_cellYBD _ _ _ (by simp) rfl); (intro e; cases e)) | (refine Src.keptX 0 H3.out.2.1 ?_ ?_; (first | exact lit_cellYB _ _ _ (by simp) rfl | exact lit_cellYBD _ _ _ (by simp) rfl); (intro e; have := HC.out.1.lt _ e; omega)) | (refine Src.keptX 0 (HC.out.2.2.1.trans H3.out.2.2) ?_ ?_; (first | exact lit_cellYB _ _ _ (by simp) rfl | exact lit_cellYBD _ _ _ (by simp) rfl); (intro e; have := HC.out.2.2.2.1 _ e; simp at this; omega))); (rw [List.length_singleton]; omega); exact Nat.le_trans (Nat.le_trans HC.out.2.2.2.2 H3.out.2.2.size) (bsz (by repeat (first | exact Below.refl _ _ | refine below_drewX ?_ | refine below_drewNX ?_ _ | refine Below.alloc ?_ (by simp) _))); intro v8 W8 ho8 hg8; rw [← HL.out.2] at ho8; obtain ⟨a8, p8, hv8⟩ := OB.form ho8; subst hv8; have hi : BoxAt W8 w.heap.size 25 x.cells.toArray := (hi.next (by repeat (first | exact Below.refl _ _ | refine below_drewX ?_ | refine below_drewNX ?_ _ | refine Below.alloc ?_ (by simp) _))).grew hg8 (fun e => by have := H3.out.1.high _ e; omega); have G8 : Grew W3 W8 _ _ := Grew.under (by repeat (first | exact Below.refl _ _ | refine below_drewX ?_ | refine below_drewNX ?_ _ | refine Below.alloc ?_ (by simp) _)) hg8; have H8 := hid (And.intro ho8 ((HC.out.2.1.trans (H3.out.2.2.below HC.out.2.1.size (fun q hq => Nat.le_trans (Nat.le_succ _) (HC.out.1.high q hq)))).trans (G8.below (Nat.le_trans HC.out.2.1.size H3.out.2.2.size) (fun q hq => Nat.le_trans (Nat.le_succ _) (H3.out.1.high q hq))))); clear ho8 hg8 G8)
        | fail "no call")
    all_goals
      rw [HRR.out] at H8 ⊢
      have HR := hid (And.intro (H8.out.1.bs (by omega)) H8.out.2)
      clear hi
      have hlF := putM_len F
      go_wp2_with fail
      refine (ref_put' _ _ F (by rw [HZ.out.1]; first | rfl | omega) hFb).mono ?_
      rintro e W4 ⟨⟨a4, p4, rfl, ho4⟩, hb4⟩
      have H4 := hid (And.intro (ho4.base HR.out.2.size) (And.intro (HR.out.1.below hb4) (HR.out.2.trans (hb4.mono HR.out.2.size))))
      clear ho4 hb4
      go_wp2_with (at_builtin; refine wpList_bytes H.out.1 _ rfl _ _ _ rfl w.heap.size _ (putM F) rfl H4.out.1 _ RB rfl (Src.ofBS un_bsX H4.out.2.1) ?_ ?_ ?_)
      · omega
      · exact H4.out.2.2.size
      intro v5 W5 ho5 hg5
      have hBB : putM F ++ RB = BM := by rw [HH.out.1, HH.out.2.1, H.out.2.2.2.2.2]
      rw [hBB] at ho5
      have H5 := hid (And.intro ho5 (H4.out.2.2.trans (hg5.below H4.out.2.2.size (fun q hq => H4.out.1.high q hq))))
      obtain ⟨a5, p5, hv5⟩ := OB.form ho5
      subst hv5
      clear ho5 hg5 hBB
      go_wp2_with fail
      refine (ref_put' _ _ BM.length (by first | rfl | exact IntWalk.u64_in _ (by omega)) (by omega)).mono ?_
      rintro e W6 ⟨⟨a6, p6, rfl, ho6⟩, hb6⟩
      have hlB := putM_len BM.length
      have H6 := hid (And.intro (ho6.base H5.out.2.size) (And.intro ((H5.out.1.below hb6).bs (by omega)) (H5.out.2.trans (hb6.mono H5.out.2.size))))
      clear ho6 hb6
      go_wp2_with (at_builtin; refine wpList_bytes H.out.1 _ rfl _ _ _ rfl w.heap.size _ (putM BM.length) rfl H6.out.1 _ BM rfl (Src.ofBS un_bsX H6.out.2.1) ?_ ?_ ?_)
      · omega
      · exact H6.out.2.2.size
      intro v7 W7 ho7 hg7
      have H7 := hid (And.intro ho7 (H6.out.2.2.trans (hg7.below H6.out.2.2.size (fun q hq => H6.out.1.high q hq))))
      clear ho7 hg7
      go_wp2_with fail
      go_ret
      obtain ⟨a7, c7, hv7⟩ := H7.out.1.form
      subst hv7
      exact ⟨⟨a7, c7, rfl, H7.out.1⟩, H7.out.2⟩
set_option maxHeartbeats 8000000 in
set_option maxRecDepth 100000 in
theorem rsaid_4 (w : World) (x : Exp) (hk : x.kind = 4) (hv : x.value < 18446744073709551616) (hr : x.resolver < 18446744073709551616) (hot : x.other.length ≤ 255) :
    Calls Tryz.prog 23 #[.agg x.cells.toArray] w (BytesEnd w (saidM (some x))) := by
  have d3 : (x.kind == 3) = false := by rw [beq_eq_false_iff_ne]; omega
  have d4 : (x.kind == 4) = true := by rw [beq_iff_eq]; exact hk
  obtain ⟨ib, R⟩ := u8rowX
  have hbox : BoxAt (w.alloc (.cells x.cells.toArray 25)) w.heap.size 25 x.cells.toArray := ⟨heap_alloc_new w _⟩
  have hb0 : Below w.heap.size w (w.alloc (.cells x.cells.toArray 25)) := (Below.refl _ _).alloc (Nat.le_refl _) _
  obtain ⟨F, hF⟩ : ∃ F, F = flagsM x := ⟨_, rfl⟩
  have hFw : (x.weak = true → F = 16 + 4) ∧ (x.weak = false → F = 16) := by
    constructor
    · intro h; rw [hF]; unfold flagsM; rw [h]; simp [hk]
    · intro h; rw [hF]; unfold flagsM; rw [h]; simp [hk]
  have hrb : restB x = putM x.value ++ putM x.resolver := by unfold restB; rw [if_neg (by omega), if_pos hk]
  have hrl : (restB x).length ≤ 286 := by have := bodyM_len x; unfold bodyM at this; rw [List.length_append] at this; omega
  have hBl := bodyM_len x
  have hFb : F < 18446744073709551616 := by
    cases hw : x.weak
    · rw [hFw.2 hw]; omega
    · rw [hFw.1 hw]; omega
  have hBF : bodyM x = putM F ++ restB x := by unfold bodyM; rw [hF]
  have H := hid (And.intro R (And.intro hbox (And.intro hb0 (And.intro hFw (And.intro hrb hBF)))))
  obtain ⟨RB, hRB⟩ : ∃ RB, RB = restB x := ⟨_, rfl⟩
  obtain ⟨BM, hBM⟩ : ∃ BM, BM = bodyM x := ⟨_, rfl⟩
  have hsd : saidM (some x) = putM BM.length ++ BM := by rw [hBM]; rfl
  rw [← hRB] at hrl
  rw [← hBM] at hBl
  have HH := hid (And.intro hRB (And.intro hBM hsd))
  rw [hsd]
  clear R hbox hb0 hF hFw hrb hBF hk hRB hBM hsd
  cases hw : x.weak
  all_goals
    have hFz := (by first | exact H.out.2.2.2.1.1 hw | exact H.out.2.2.2.1.2 hw)
    have HZ := hid (show _ ∧ True from ⟨hFz, trivial⟩)
    have k1 : (w.alloc (.cells x.cells.toArray 25)).cell? ⟨w.heap.size, 1, none⟩ = some (.int .i64 x.kind) := H.out.2.1.cell 1
    have k2 : (w.alloc (.cells x.cells.toArray 25)).cell? ⟨w.heap.size, 2, none⟩ = some (.bool x.weak) := H.out.2.1.cell 2
    have k3 : (w.alloc (.cells x.cells.toArray 25)).cell? ⟨w.heap.size, 3, none⟩ = some (.int .u64 (x.value : Int)) := H.out.2.1.cell 3
    rw [hw] at k2
    clear hw hFz
    go_enter Tryz.func23, Tryz.ntmps23
    go_wp2_with fail
    have hlO := putM_len x.value
    have hlR := putM_len x.resolver
    obtain ⟨L2, hL2⟩ : ∃ L, L = putM x.value ++ putM x.resolver := ⟨_, rfl⟩
    have hl2 : L2.length ≤ 266 := by rw [hL2, List.length_append]; omega
    have HL := hid hL2
    have hRR : L2 = RB := by rw [HH.out.1, H.out.2.2.2.2.1, hL2]
    have HRR := hid hRR
    clear hL2 k1 k2 k3 hRR
    have hi := H.out.2.1
    go_region_held3 (fun W => W.cell? ⟨w.heap.size, 3, none⟩ = some (.int .u64 (x.value : Int)) ∧ W.cell? ⟨w.heap.size, 4, none⟩ = some (.int .u64 (x.resolver : Int)))
      (first | exact ⟨hi.cell 3, hi.cell 4⟩ | exact ⟨(hi.alloc _).cell 3, (hi.alloc _).cell 4⟩)
      (first
        | (go_at_call 24; (with_reducible refine (ref_put _ x.value hv).mono ?_); rintro e W2 ⟨⟨a2, p2, rfl, ho2⟩, hb2⟩; have hi : BoxAt W2 w.heap.size 25 x.cells.toArray := (H.out.2.1.next (by repeat (first | exact Below.refl _ _ | refine below_drewX ?_ | refine below_drewNX ?_ _ | refine Below.alloc ?_ (by simp) _))).next hb2; have HC := hid (And.intro (ho2.base (Nat.le_trans (sz1 w _) (bsz (by repeat (first | exact Below.refl _ _ | refine below_drewX ?_ | refine below_drewNX ?_ _ | refine Below.alloc ?_ (by simp) _))))) (And.intro (belTo H.out.2.2.1 (by simp) (by repeat (first | exact Below.refl _ _ | refine below_drewX ?_ | refine below_drewNX ?_ _ | refine Below.alloc ?_ (by simp) _)) hb2) (Nat.le_trans (Nat.le_trans (sz1 w _) (bsz (by repeat (first | exact Below.refl _ _ | refine below_drewX ?_ | refine below_drewNX ?_ _ | refine Below.alloc ?_ (by simp) _)))) (bsz hb2)))); clear ho2 hb2)
        | (go_at_call 24; (with_reducible refine (ref_put _ x.resolver hr).mono ?_); rintro e W3 ⟨⟨a3, p3, rfl, ho3⟩, hb3⟩; have hi : BoxAt W3 w.heap.size 25 x.cells.toArray := (hi.next (by repeat (first | exact Below.refl _ _ | refine below_drewX ?_ | refine below_drewNX ?_ _ | refine Below.alloc ?_ (by simp) _))).next hb3; have H3 := hid (And.intro ((HC.out.1.below (by repeat (first | exact Below.refl _ _ | refine below_drewX ?_ | refine below_drewNX ?_ _ | refine Below.alloc ?_ (by simp) _))).below hb3) (And.intro (belTo HC.out.2.1 HC.out.2.1.size (by repeat (first | exact Below.refl _ _ | refine below_drewX ?_ | refine below_drewNX ?_ _ | refine Below.alloc ?_ (by simp) _)) hb3) (And.intro (ho3.bs (by omega)) (Nat.le_trans HC.out.2.2 (Nat.le_trans (bsz (by repeat (first | exact Below.refl _ _ | refine below_drewX ?_ | refine below_drewNX ?_ _ | refine Below.alloc ?_ (by simp) _))) (bsz hb3)))))); clear ho3 hb3)
        | (refine step_bytes H.out.1 _ rfl (.tmp 31) (.tmp 34) _ rfl (w.heap.size + 1) (.slice a2 (putM x.value).length p2) (putM x.value) rfl ?_ (.slice a3 (putM x.resolver).length p3) (putM x.resolver) rfl ?_ ?_ ?_ ?_; exact H3.out.1.below (by repeat (first | exact Below.refl _ _ | refine below_drewX ?_ | refine below_drewNX ?_ _ | refine Below.alloc ?_ (by simp) _)); exact Src.ofBS un_bsX (H3.out.2.2.1.below (by repeat (first | exact Below.refl _ _ | refine below_drewX ?_ | refine below_drewNX ?_ _ | refine Below.alloc ?_ (by simp) _))); omega; exact Nat.le_trans H3.out.2.2.2 (bsz (by repeat (first | exact Below.refl _ _ | refine below_drewX ?_ | refine below_drewNX ?_ _ | refine Below.alloc ?_ (by simp) _))); intro v8 W8 ho8 hg8; rw [← HL.out] at ho8; obtain ⟨a8, p8, hv8⟩ := OB.form ho8; subst hv8; have hi : BoxAt W8 w.heap.size 25 x.cells.toArray := (hi.next (by repeat (first | exact Below.refl _ _ | refine below_drewX ?_ | refine below_drewNX ?_ _ | refine Below.alloc ?_ (by simp) _))).grew hg8 (fun e => by have := H3.out.1.high _ e; omega); have G8 : Grew W3 W8 _ _ := Grew.under (by repeat (first | exact Below.refl _ _ | refine below_drewX ?_ | refine below_drewNX ?_ _ | refine Below.alloc ?_ (by simp) _)) hg8; have H8 := hid (And.intro ho8 (H3.out.2.1.trans (G8.below H3.out.2.1.size (fun q hq => Nat.le_trans (Nat.le_succ _) (H3.out.1.high q hq))))); clear ho8 hg8 G8)
        | fail "no call")
    all_goals
      rw [HRR.out] at H8 ⊢
      have HR := hid (And.intro (H8.out.1.bs (by omega)) H8.out.2)
      clear hi
      have hlF := putM_len F
      go_wp2_with fail
      refine (ref_put' _ _ F (by rw [HZ.out.1]; first | rfl | omega) hFb).mono ?_
      rintro e W4 ⟨⟨a4, p4, rfl, ho4⟩, hb4⟩
      have H4 := hid (And.intro (ho4.base HR.out.2.size) (And.intro (HR.out.1.below hb4) (HR.out.2.trans (hb4.mono HR.out.2.size))))
      clear ho4 hb4
      go_wp2_with (at_builtin; refine wpList_bytes H.out.1 _ rfl _ _ _ rfl w.heap.size _ (putM F) rfl H4.out.1 _ RB rfl (Src.ofBS un_bsX H4.out.2.1) ?_ ?_ ?_)
      · omega
      · exact H4.out.2.2.size
      intro v5 W5 ho5 hg5
      have hBB : putM F ++ RB = BM := by rw [HH.out.1, HH.out.2.1, H.out.2.2.2.2.2]
      rw [hBB] at ho5
      have H5 := hid (And.intro ho5 (H4.out.2.2.trans (hg5.below H4.out.2.2.size (fun q hq => H4.out.1.high q hq))))
      obtain ⟨a5, p5, hv5⟩ := OB.form ho5
      subst hv5
      clear ho5 hg5 hBB
      go_wp2_with fail
      refine (ref_put' _ _ BM.length (by first | rfl | exact IntWalk.u64_in _ (by omega)) (by omega)).mono ?_
      rintro e W6 ⟨⟨a6, p6, rfl, ho6⟩, hb6⟩
      have hlB := putM_len BM.length
      have H6 := hid (And.intro (ho6.base H5.out.2.size) (And.intro ((H5.out.1.below hb6).bs (by omega)) (H5.out.2.trans (hb6.mono H5.out.2.size))))
      clear ho6 hb6
      go_wp2_with (at_builtin; refine wpList_bytes H.out.1 _ rfl _ _ _ rfl w.heap.size _ (putM BM.length) rfl H6.out.1 _ BM rfl (Src.ofBS un_bsX H6.out.2.1) ?_ ?_ ?_)
      · omega
      · exact H6.out.2.2.size
      intro v7 W7 ho7 hg7
      have H7 := hid (And.intro ho7 (H6.out.2.2.trans (hg7.below H6.out.2.2.size (fun q hq => H6.out.1.high q hq))))
      clear ho7 hg7
      go_wp2_with fail
      go_ret
      obtain ⟨a7, c7, hv7⟩ := H7.out.1.form
      subst hv7
      exact ⟨⟨a7, c7, rfl, H7.out.1⟩, H7.out.2⟩
/-- What is said, whatever it is. -/
theorem rsaid_any (w : World) (x : Exp) (g : GoodX x) : Calls Tryz.prog 23 #[.agg x.cells.toArray] w (BytesEnd w (saidM (some x))) := by
  rcases g.kind with ⟨hk | hk, -⟩ | ⟨hk, -⟩ | ⟨hk, -⟩
  · exact rsaid_1 w x hk g.v g.other2
  · exact rsaid_2 w x hk g.v g.other2
  · exact rsaid_3 w x hk g.o g.other2
  · exact rsaid_4 w x hk g.v g.r g.other2
end Go.Proofs.YthhjdkcnkdffcaaGreat

namespace Go.Proofs.YthhjdkcnkdffcaaGreat
set_option linter.unusedSimpArgs false
set_option linter.unusedVariables false
open Go.RowKit
theorem share_stop {a b : List UInt8} {j : Nat} (ha : j ≤ a.length) (hb : j ≤ b.length) (h : a.take j = b.take j) (hs : j = a.length ∨ j = b.length ∨ ∃ c d, a[j]? = some c ∧ b[j]? = some d ∧ c ≠ d) : shareL a b = a.take j := by
  have h1 : a.take j <+: shareL a b := (share_iff _ _ _).2 ⟨List.take_prefix _ _, by rw [h]; exact List.take_prefix _ _⟩
  have hl1 := (share_left a b).length_le
  have hl2 := (share_right a b).length_le
  have hlt : (a.take j).length = j := by rw [List.length_take]; omega
  refine (prefix_eq h1 ?_).symm
  rw [hlt]
  rcases hs with hs | hs | ⟨c, d, hc, hd, hne⟩
  · omega
  · omega
  · rcases Nat.lt_or_ge j (shareL a b).length with h2 | h2
    · exfalso
      obtain ⟨s, hs⟩ := share_left a b
      obtain ⟨t, ht⟩ := share_right a b
      have e1 : a[j]? = (shareL a b)[j]? := by
        conv => lhs; rw [← hs]
        rw [List.getElem?_append_left h2]
      have e2 : b[j]? = (shareL a b)[j]? := by
        conv => lhs; rw [← ht]
        rw [List.getElem?_append_left h2]
      rw [hc] at e1
      rw [hd] at e2
      rw [← e1] at e2
      cases e2
      exact hne rfl
    · exact h2
theorem take_same {a b : List UInt8} {j : Nat} {c : UInt8} (h : a.take j = b.take j) (hc : a[j]? = some c) (hd : b[j]? = some c) : a.take (j + 1) = b.take (j + 1) := by
  rw [take_snoc hc, take_snoc hd, h]
theorem mkS_takeX (r : List UInt8) (k : Nat) (h : k ≤ r.length) : (mkS r).extract 0 k = mkS (r.take k) := by
  apply ByteArray.ext
  rw [ByteArray.data_extract]
  simp [mkS, List.extract_eq_take_drop]
theorem mkS_at {a : List UInt8} {j : Nat} {c : UInt8} (hc : a[j]? = some c) : ∀ h : j < (mkS a).size, (mkS a)[j]'h = c := by
  intro h
  have h1 : a[j]'(List.getElem?_eq_some_iff.1 hc).1 = c := (List.getElem?_eq_some_iff.1 hc).2
  rw [← h1]; rfl
set_option maxHeartbeats 2000000 in
theorem ref_share (w : World) (a b : List UInt8) (ha : a.length ≤ 1000000) (hb : b.length ≤ 1000000) :
    Calls Tryz.prog 22 #[.string (mkS a), .string (mkS b)] w fun e w' => e = .returned (.string (mkS (shareL a b))) ∧ Below w.heap.size w w' := by
  go_enter Tryz.func22, Tryz.ntmps22
  go_wp2_with fail
  go_loopw [5] (fun t5 wr => ∃ j : Nat, j ≤ a.length ∧ j ≤ b.length ∧ t5 = .int .i64 (j : Int) ∧ a.take j = b.take j ∧ Below w.heap.size w wr) (fun t5 _ => a.length - (intOf t5).toNat)
  case atStart => exact ⟨0, Nat.zero_le _, Nat.zero_le _, rfl, rfl, Below.refl _ _⟩
  case round =>
    obtain ⟨j, hja, hjb, rfl, hsame, hbl⟩ := hrel
    have HS := hid (And.intro hsame hbl)
    clear hsame hbl
    by_cases h1 : j < a.length
    · by_cases h2 : j < b.length
      · obtain ⟨c, hc⟩ : ∃ c, a[j]? = some c := ⟨_, List.getElem?_eq_getElem h1⟩
        obtain ⟨d, hd⟩ : ∃ d, b[j]? = some d := ⟨_, List.getElem?_eq_getElem h2⟩
        have d1 : decide (j < a.length) = true := by rw [decide_eq_true_eq]; exact h1
        have d1' : decide ((j : Int) < (a.length : Int)) = true := by rw [decide_eq_true_eq]; omega
        have d2 : decide (j < b.length) = true := by rw [decide_eq_true_eq]; exact h2
        have d2' : decide ((j : Int) < (b.length : Int)) = true := by rw [decide_eq_true_eq]; omega
        have ka := mkS_at hc
        have kb := mkS_at hd
        by_cases hcd : c = d
        · have t1 : ((c.toNat : Int) == (d.toNat : Int)) = true := by rw [beq_iff_eq, hcd]
          have hnext := take_same HS.out.1 hc (hcd ▸ hd)
          have HN := hid hnext
          clear hcd hc hd hnext
          go_wp2_with fail
          go_quiet (fail)
          go_wp2_with fail
          go_roundw
          case rel => exact ⟨j + 1, by have := d1; simp at this; omega, by have := d2; simp at this; omega, by go_num, HN.out, below_drewNX HS.out.2 _⟩
          case measure => have := d1; simp at this; simp [intOf]; omega
        · have t1 : ((c.toNat : Int) == (d.toNat : Int)) = false := by
            rw [beq_eq_false_iff_ne]
            intro e
            exact hcd (UInt8.toNat_inj.1 (by omega))
          have hr := share_stop hja hjb HS.out.1 (.inr (.inr ⟨c, d, hc, hd, hcd⟩))
          have HR := hid (And.intro hr (mkS_takeX a j hja))
          clear hr hc hd hcd
          go_wp2_with fail
          go_quiet (fail)
          go_wp2_with fail
          go_ret
          rw [HR.out.1, HR.out.2]
          exact ⟨rfl, below_drewNX HS.out.2 _⟩
      · have d1 : decide (j < a.length) = true := by rw [decide_eq_true_eq]; exact h1
        have d1' : decide ((j : Int) < (a.length : Int)) = true := by rw [decide_eq_true_eq]; omega
        have d2 : decide (j < b.length) = false := by rw [decide_eq_false_iff_not]; exact h2
        have d2' : decide ((j : Int) < (b.length : Int)) = false := by rw [decide_eq_false_iff_not]; omega
        have hr := share_stop hja hjb HS.out.1 (.inr (.inl (by omega)))
        have HR := hid (And.intro hr (mkS_takeX a j hja))
        clear hr h1 h2
        go_wp2_with fail
        go_quiet (fail)
        go_wp2_with fail
        go_ret
        rw [HR.out.1, HR.out.2]
        exact ⟨rfl, below_drewNX HS.out.2 _⟩
    · have d1 : decide (j < a.length) = false := by rw [decide_eq_false_iff_not]; exact h1
      have d1' : decide ((j : Int) < (a.length : Int)) = false := by rw [decide_eq_false_iff_not]; omega
      have hr := share_stop hja hjb HS.out.1 (.inl (by omega))
      have HR := hid (And.intro hr (mkS_takeX a j hja))
      clear hr h1
      go_wp2_with fail
      go_quiet (fail)
      go_wp2_with fail
      go_ret
      rw [HR.out.1, HR.out.2]
      exact ⟨rfl, below_drewNX HS.out.2 _⟩
end Go.Proofs.YthhjdkcnkdffcaaGreat
