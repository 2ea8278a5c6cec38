/- BesideOdd: any rows, laid on any memory. -/
import Derived.Test.YthlnjfnjmjdohaaZBmN
import Derived.Test.YthlnjfnjmjdohaaZLwA
import Derived.Test.YthlnjfnjmjdohaaZLwB
namespace Go.Proofs.Ythlnjfnjmjdohaa
set_option linter.unusedSimpArgs false
set_option linter.unusedVariables false
open Go.RowKit

theorem mergeC_len : ∀ (x y : List Cz), (mergeC x y).length = x.length + y.length
  | [], y => by rw [mergeC_nil]; simp
  | c :: x, [] => by rw [mergeC_nilr]; simp
  | c :: x, d :: y => by
    unfold mergeC
    split
    · rw [List.length_cons, mergeC_len x (d :: y)]; simp only [List.length_cons]; omega
    · rw [List.length_cons, mergeC_len (c :: x) y]; simp only [List.length_cons]; omega
termination_by x y => x.length + y.length
theorem lay_len (l : List Pz) (x : Rz) : (layZ l x).2.length ≤ (cellsZ l).length + (cellsZ x.gained).length := by
  unfold layZ
  split
  · refine Nat.le_trans (pieces_len _) ?_
    unfold layOf layC
    have hm : (minusC (cellsZ l) (cellsZ x.lost)).length ≤ (cellsZ l).length := List.length_filter_le _ _
    split
    · simp
    · split
      · simp
      · split
        · simp
        · show (mergeC _ _).length ≤ _
          rw [mergeC_len, patC_len]
          omega
  · simp
theorem LayEnd.get {w w' : World} {r : Int × List Pz} {e : Ending} (h : LayEnd w r e w') : ∃ p n c L, e = .returned (.tuple #[.slice p n c, .int .i64 r.1]) ∧ Below w.heap.size w w' ∧ PzsAt w' (.slice p n c) L ∧ L.map PzV.m = r.2 := by
  obtain ⟨v', rfl, hb, L, ho, hm⟩ := h
  obtain ⟨p, n, c, rfl⟩ := own_form ho.own
  exact ⟨p, n, c, L, rfl, hb, ho.reads, hm⟩
/-- What stands in the last line. -/
structure OddV (w5 W : World) (K : Nat) (rows : Array Value) : Prop where
  bel : Below w5.heap.size w5 W
  box : RowAt W K 28 rows
theorem OddV.below {w5 W W' : World} {K : Nat} {rows : Array Value} (h : OddV w5 W K rows) (hb : Below W.heap.size W W') : OddV w5 W' K rows := ⟨h.bel.trans (hb.mono h.bel.size), RowAt.below h.box hb⟩

set_option maxHeartbeats 4000000 in
set_option maxRecDepth 8000 in
theorem lw_odd (w : World) (v vl vg vp : Value) (L Ll Lg : List PzV) (Lp : List PaV) (hL : PzsAt w v L) (hl : PzsAt w vl Ll) (hg : PzsAt w vg Lg) (hp : PasAt w vp Lp) (hat : ∀ x ∈ Lp, x.at_ < 2 ^ 64) :
    Calls Try.prog 4 #[v, .agg #[vl, vg, vp]] w fun e w' => e = .returned (.bool true) ∧ Below w.heap.size w w' := by
  obtain ⟨pa, ca, rfl⟩ := RowsAt.form hL.rows
  obtain ⟨p1, p2, rfl⟩ := RowsAt.form hl.rows
  obtain ⟨p3, p4, rfl⟩ := RowsAt.form hg.rows
  obtain ⟨p5, p6, rfl⟩ := RowsAt.form hp.rows
  obtain ⟨na, hna⟩ : ∃ n, n = L.length := ⟨_, rfl⟩
  obtain ⟨nl, hnl⟩ : ∃ n, n = Ll.length := ⟨_, rfl⟩
  obtain ⟨ng, hng⟩ : ∃ n, n = Lg.length := ⟨_, rfl⟩
  obtain ⟨N, hN⟩ : ∃ n, n = Lp.length := ⟨_, rfl⟩
  rw [← hna] at hL ⊢
  rw [← hnl] at hl ⊢
  rw [← hng] at hg ⊢
  rw [← hN] at hp ⊢
  have H := hid (And.intro hL (And.intro hl (And.intro hg (And.intro hp hat))))
  clear hL hl hg hp hat hna hnl hng hN
  go_enter Try.func4, Try.ntmps4
  go_upto_region 1 with fail
  obtain ⟨V, hV⟩ : ∃ V, V = w.alloc (.cells #[.slice p1 nl p2, .slice p3 ng p4, .slice p5 N p6] 28) := ⟨_, rfl⟩
  have bV : Below w.heap.size w V := by rw [hV]; exact (Below.refl _ _).alloc (Nat.le_refl _) _
  have rV : RowAt V w.heap.size 28 #[.slice p1 nl p2, .slice p3 ng p4, .slice p5 N p6] := by rw [hV]; exact heap_alloc_new w _
  rw [← hV]
  clear hV
  have HV := hid (And.intro bV rV)
  clear bV rV
  go_wp2_with fail
  refine (lw_much V _ L (H.out.1.below HV.out.1)).mono ?_
  rintro e w1 ⟨m1, rfl, b1, k1⟩
  have bw1 := HV.out.1.trans (b1.mono HV.out.1.size)
  have r1 := RowAt.below HV.out.2 b1
  have z0 : w1.cell? ⟨w.heap.size, 0, none⟩ = some (.slice p1 nl p2) := r1.cell 0
  have z1 : w1.cell? ⟨w.heap.size, 1, none⟩ = some (.slice p3 ng p4) := r1.cell 1
  have z2 : w1.cell? ⟨w.heap.size, 2, none⟩ = some (.slice p5 N p6) := r1.cell 2
  have H1 := hid (And.intro bw1 r1)
  clear bw1 r1 b1
  cases m1 with
  | true =>
    clear k1
    go_wp2_with fail
    refine (lw_known _).mono ?_
    rintro e w2 ⟨rfl, b2⟩
    have HQ := hid (H1.out.1.trans (b2.mono H1.out.1.size))
    clear b2 z0 z1 z2
    go_wp2_with fail
    exact bodyPost_ret (v := .bool true) (by simp [results, Try.results4, go_sem]) rfl ⟨rfl, HQ.out⟩
  | false =>
  have K1 := hid (k1 rfl)
  clear k1
  go_wp2_with fail
  refine (lw_muchRows w1 _ _ _ Ll Lg Lp (H.out.2.1.below H1.out.1) (H.out.2.2.1.below H1.out.1) (H.out.2.2.2.1.below H1.out.1)).mono ?_
  rintro e w2 ⟨m2, rfl, b2, k2⟩
  have bw2 := H1.out.1.trans (b2.mono H1.out.1.size)
  have r2 := RowAt.below H1.out.2 b2
  have H2 := hid (And.intro bw2 r2)
  clear bw2 r2 b2 z0 z1 z2
  cases m2 with
  | true =>
    clear k2
    go_wp2_with fail
    refine (lw_known _).mono ?_
    rintro e w3 ⟨rfl, b3⟩
    have HQ := hid (H2.out.1.trans (b3.mono H2.out.1.size))
    clear b3
    go_wp2_with fail
    exact bodyPost_ret (v := .bool true) (by simp [results, Try.results4, go_sem]) rfl ⟨rfl, HQ.out⟩
  | false =>
  have K2 := hid (k2 rfl)
  clear k2
  go_wp2_with fail
  refine (lw_own w2 _ L (H.out.1.below H2.out.1) (by have := K1.out.1; omega)).mono ?_
  rintro e w3 ⟨v3, L3, rfl, b3, h3, hm3⟩
  obtain ⟨q1, q2, rfl⟩ := RowsAt.form h3.rows
  obtain ⟨n3, hn3⟩ : ∃ n, n = L3.length := ⟨_, rfl⟩
  rw [← hn3] at h3 ⊢
  have hl3 : L3.length = L.length := by have := congrArg List.length hm3; simpa using this
  have bw3 := H2.out.1.trans (b3.mono H2.out.1.size)
  have r3 := RowAt.below H2.out.2 b3
  have z0 : w3.cell? ⟨w.heap.size, 0, none⟩ = some (.slice p1 nl p2) := r3.cell 0
  have z1 : w3.cell? ⟨w.heap.size, 1, none⟩ = some (.slice p3 ng p4) := r3.cell 1
  have z2 : w3.cell? ⟨w.heap.size, 2, none⟩ = some (.slice p5 N p6) := r3.cell 2
  have hlay := bd_lay w3 (.slice q1 n3 q2) _ _ _ L3 Ll Lg Lp h3 (H.out.2.1.below bw3) (H.out.2.2.1.below bw3) (H.out.2.2.2.1.below bw3) H.out.2.2.2.2 (by have := K1.out.1; omega) (by have := K2.out.1.1; omega) (by have := K2.out.2.1.1; omega) (by have := K2.out.2.2; omega) (by rw [hm3]; have := K1.out.2; omega)
  rw [hm3] at hlay
  have H3 := hid (And.intro bw3 (And.intro r3 (And.intro h3 (And.intro hm3 (And.intro hl3 hn3)))))
  have HL := hid hlay
  clear b3 h3 hm3 hl3 hn3 bw3 r3 hlay
  obtain ⟨R, hR⟩ : ∃ R, R = layZ (L.map PzV.m) (rzV Ll Lg Lp) := ⟨_, rfl⟩
  rw [← hR] at HL
  have hlen := lay_len (L.map PzV.m) (rzV Ll Lg Lp)
  rw [← hR] at hlen
  have HR := hid (And.intro hR hlen)
  clear hR hlen
  go_wp2_with fail
  refine HL.out.mono ?_
  intro e w4 h4
  obtain ⟨s1, s2, s3, L4, rfl, b4, hp4, hm4⟩ := h4.get
  have bw4 := H3.out.1.trans (b4.mono H3.out.1.size)
  have r4 := RowAt.below H3.out.2.1 b4
  have z0 : w4.cell? ⟨w.heap.size, 0, none⟩ = some (.slice p1 nl p2) := r4.cell 0
  have z1 : w4.cell? ⟨w.heap.size, 1, none⟩ = some (.slice p3 ng p4) := r4.cell 1
  have z2 : w4.cell? ⟨w.heap.size, 2, none⟩ = some (.slice p5 N p6) := r4.cell 2
  have hrl := br_lay w4 (.slice pa na ca) _ _ _ L Ll Lg Lp (H.out.1.below bw4) (H.out.2.1.below bw4) (H.out.2.2.1.below bw4) (H.out.2.2.2.1.below bw4) H.out.2.2.2.2 (by have := K1.out.1; omega) (by have := K2.out.1.1; omega) (by have := K2.out.2.1.1; omega) (by have := K2.out.2.2; omega) (by have := K1.out.2; omega) (by have := K2.out.1.2; omega) (by have := K2.out.2.1.2; omega)
  rw [← HR.out.1] at hrl
  have H4 := hid (And.intro bw4 (And.intro r4 (And.intro hp4 (And.intro hm4 b4))))
  have HRL := hid hrl
  clear h4 b4 hp4 hm4 bw4 r4 hrl
  go_wp2_with fail
  refine HRL.out.mono ?_
  intro e w5 h5
  obtain ⟨t1, t2, t3, L5, rfl, b5, hp5, hm5⟩ := h5.get
  have bw5 := H4.out.1.trans (b5.mono H4.out.1.size)
  have r5 := RowAt.below H4.out.2.1 b5
  obtain ⟨ge, hge⟩ : ∃ ge, ge = R.1 := ⟨_, rfl⟩
  rw [← hge]
  have hbe : (ge == ge) = true := by simp
  have hs1 : ∀ W, Below w5.heap.size w5 W → Calls Try.prog 15 #[.slice s1 s2 s3, .slice t1 t2 t3] W fun e w' => e = .returned (.bool true) ∧ Below W.heap.size W w' := fun W hb =>
    br_same W _ _ L4 L5 (H4.out.2.2.1.below (b5.trans (hb.mono b5.size))) (hp5.below hb) (H4.out.2.2.2.1.trans hm5.symm) (by
      have h1 := congrArg List.length H4.out.2.2.2.1
      rw [List.length_map] at h1
      have h2 := HR.out.2
      have h3 := K1.out.2
      have h4 : (cellsZ (rzV Ll Lg Lp).gained).length ≤ 6000 := K2.out.2.1.2
      omega)
  have hs2 : ∀ W, Below w5.heap.size w5 W → Calls Try.prog 15 #[.slice q1 n3 q2, .slice pa na ca] W fun e w' => e = .returned (.bool true) ∧ Below W.heap.size W w' := fun W hb =>
    br_same W _ _ L3 L (H3.out.2.2.1.below (H4.out.2.2.2.2.trans ((b5.trans (hb.mono b5.size)).mono H4.out.2.2.2.2.size))) (H.out.1.below (bw5.trans (hb.mono bw5.size))) H3.out.2.2.2.1 (by have := H3.out.2.2.2.2.1; have := K1.out.1; omega)
  obtain ⟨mm, hmm⟩ : ∃ b, b = mayRowsZ (rzV Ll Lg Lp) := ⟨_, rfl⟩
  have hm1 : ∀ W, Below w5.heap.size w5 W → Calls Try.prog 20 #[.agg #[.slice p1 nl p2, .slice p3 ng p4, .slice p5 N p6]] W fun e w' => e = .returned (.bool mm) ∧ Below W.heap.size W w' := fun W hb => by
    have hbw := bw5.trans (hb.mono bw5.size)
    rw [hmm]
    exact bd_mayRows W _ _ _ Ll Lg Lp (H.out.2.1.below hbw) (H.out.2.2.1.below hbw) (H.out.2.2.2.1.below hbw) H.out.2.2.2.2 (by have := K2.out.1.1; omega) (by have := K2.out.2.1.1; omega) (by have := K2.out.2.2; omega)
  have hm2 : ∀ W, Below w5.heap.size w5 W → Calls Try.prog 21 #[.agg #[.slice p1 nl p2, .slice p3 ng p4, .slice p5 N p6]] W fun e w' => e = .returned (.bool mm) ∧ Below W.heap.size W w' := fun W hb => by
    have hbw := bw5.trans (hb.mono bw5.size)
    rw [hmm, ← mayRowsR_is]
    exact br_mayRows W _ _ _ Ll Lg Lp (H.out.2.1.below hbw) (H.out.2.2.1.below hbw) (H.out.2.2.2.1.below hbw) H.out.2.2.2.2 (by have := K2.out.1.1; omega) (by have := K2.out.2.1.1; omega) (by have := K2.out.2.2; omega) (by have := K2.out.1.2; omega) (by have := K2.out.2.1.2; omega)
  have hbm : (mm == mm) = true := by simp
  have hi0 : OddV w5 w5 w.heap.size #[.slice p1 nl p2, .slice p3 ng p4, .slice p5 N p6] := ⟨Below.refl _ _, r5⟩
  have hi := hi0.below (below_drewP w5)
  have HS1 := hid hs1
  have HS2 := hid hs2
  have HM1 := hid hm1
  have HM2 := hid hm2
  have HW := hid bw5
  clear h5 b5 hp5 hm5 bw5 r5 hge hs1 hs2 hmm hm1 hm2 hi0 z0 z1 z2
  go_upto_region 6 with fail
  go_region_held (fun W => W.cell? ⟨w.heap.size, 0, none⟩ = some (.slice p1 nl p2) ∧ W.cell? ⟨w.heap.size, 1, none⟩ = some (.slice p3 ng p4) ∧ W.cell? ⟨w.heap.size, 2, none⟩ = some (.slice p5 N p6)) (exact ⟨hi.box.cell 0, hi.box.cell 1, hi.box.cell 2⟩)
    (first
      | (go_at_call 15; (first | (with_reducible refine (HS1.out _ hi.bel).mono ?_) | (with_reducible refine (HS2.out _ hi.bel).mono ?_)); rintro e w6 ⟨rfl, b6⟩; have hi := hi.below b6; clear b6)
      | (go_at_call 20; (with_reducible refine (HM1.out _ hi.bel).mono ?_); rintro e w6 ⟨rfl, b6⟩; have hi := hi.below b6; clear b6)
      | (go_at_call 21; (with_reducible refine (HM2.out _ hi.bel).mono ?_); rintro e w6 ⟨rfl, b6⟩; have hi := hi.below b6; clear b6)
      | (go_at_call 7; (with_reducible refine (lw_known _).mono ?_); rintro e w6 ⟨rfl, b6⟩; have hi := hi.below b6; clear b6)
      | fail "no call")
  all_goals
    have HE := hid hi.bel
    clear hi
    go_wp2_with fail
    exact bodyPost_ret (v := .bool true) (by simp [results, Try.results4, go_sem]) rfl ⟨rfl, HW.out.trans (HE.out.mono HW.out.size)⟩
end Go.Proofs.Ythlnjfnjmjdohaa
