/- BesideLays: walked. -/
import Derived.Test.YthlnjfnjmjdohaaZLwJ
namespace Go.Proofs.Ythlnjfnjmjdohaa
set_option linter.unusedSimpArgs false
set_option linter.unusedVariables false
open Go.RowKit

theorem CellsEnd.ownK {w w' : World} {L : List Pz} {e : Ending} (h : CellsEnd w L e w') (hm : mayZ L = true) : ∃ p c, e = .returned (.tuple #[.slice p (cellsZ L).length c, .bool true]) ∧ Below w.heap.size w w' ∧ OwnC w' w.heap.size (.slice p (cellsZ L).length c) (cellsZ L) := by
  obtain ⟨v, h1, h2, h3⟩ := h
  rw [if_pos hm] at h3
  rw [hm] at h1
  obtain ⟨p, n, c, rfl⟩ := own_form h3
  have hn := RowsAt.len' (own3_reads czLen h3)
  subst hn
  exact ⟨p, c, h1, h2, h3⟩
theorem cells_rows {w w' : World} {L : List Pz} {e : Ending} (h : CellsEnd w L e w') (hm : mayZ L = true) : ∃ p n c, e = .returned (.tuple #[.slice p n c, .bool true]) ∧ Below w.heap.size w w' ∧ RowsAt czC 3 w' (.slice p n c) (cellsZ L) := by
  obtain ⟨p, c, h1, h2, h3⟩ := h.ownK hm
  exact ⟨_, _, _, h1, h2, own3_reads czLen h3⟩
theorem laid_get {w w' : World} {l : List Pz} {e : Ending} (h : ∃ v', e = .returned v' ∧ NewOwn w w' v' l) : ∃ p n c L, e = .returned (.slice p n c) ∧ Below w.heap.size w w' ∧ PzsAt w' (.slice p n c) L ∧ L.map PzV.m = l := by
  obtain ⟨v', rfl, hb, L, ho, hm⟩ := h
  obtain ⟨p, n, c, rfl⟩ := own_form ho.own
  exact ⟨p, n, c, L, rfl, hb, ho.reads, hm⟩

/-- What stands in the last lines. -/
structure LaysI (w0 W : World) (K : Nat) (rows : Array Value) (x : Value) (r : Rz) : Prop where
  bel : Below w0.heap.size w0 W
  box : RowAt W K 28 rows
  x : RowsV W x r
theorem LaysI.below {w0 W W' : World} {K : Nat} {rows : Array Value} {x : Value} {r : Rz} (h : LaysI w0 W K rows x r) (hb : Below W.heap.size W W') : LaysI w0 W' K rows x r := ⟨h.bel.trans (hb.mono h.bel.size), RowAt.below h.box hb, h.x.below hb⟩
theorem rv_mayT {W : World} {val : Value} {r : Rz} (h : RowsV W val r) (hm : mayRowsZ r = true) : Calls Try.prog 20 #[val] W fun e w' => e = .returned (.bool true) ∧ Below W.heap.size W w' := by
  have := rv_may h
  rw [hm] at this
  exact this

set_option maxHeartbeats 8000000 in
set_option maxRecDepth 8000 in
theorem lw_lays (w : World) (va vb : Value) (A B : List PzV) (hA : PzsAt w va A) (hB : PzsAt w vb B) : Calls Try.prog 5 #[va, vb] w fun e w' => e = .returned (.bool true) ∧ Below w.heap.size w w' := by
  obtain ⟨pa, ca, rfl⟩ := RowsAt.form hA.rows
  obtain ⟨pb, cb, rfl⟩ := RowsAt.form hB.rows
  obtain ⟨na, hna⟩ : ∃ n, n = A.length := ⟨_, rfl⟩
  obtain ⟨nb, hnb⟩ : ∃ n, n = B.length := ⟨_, rfl⟩
  rw [← hna] at hA ⊢
  rw [← hnb] at hB ⊢
  have H := hid (And.intro hA hB)
  clear hA hB hna hnb
  go_enter Try.func5, Try.ntmps5
  go_wp2_with fail
  refine (lw_much w _ A H.out.1).mono ?_
  rintro e w1 ⟨m1, rfl, b1, k1⟩
  cases m1 with
  | true =>
    clear k1
    go_wp2_with fail
    refine (lw_known _).mono ?_
    rintro e w2 ⟨rfl, b2⟩
    have HQ := hid (b1.trans (b2.mono b1.size))
    clear b1 b2
    go_wp2_with fail
    exact bodyPost_ret (v := .bool true) (by simp [results, Try.results5, go_sem]) rfl ⟨rfl, HQ.out⟩
  | false =>
  have K1 := hid (k1 rfl)
  have H1 := hid b1
  clear k1 b1
  go_wp2_with fail
  refine (lw_much w1 _ B (H.out.2.below H1.out)).mono ?_
  rintro e w2 ⟨m2, rfl, b2, k2⟩
  have bw2 := H1.out.trans (b2.mono H1.out.size)
  cases m2 with
  | true =>
    clear k2 b2
    have HB := hid bw2
    clear bw2
    go_wp2_with fail
    refine (lw_known _).mono ?_
    rintro e w3 ⟨rfl, b3⟩
    have HQ := hid (HB.out.trans (b3.mono HB.out.size))
    clear b3
    go_wp2_with fail
    exact bodyPost_ret (v := .bool true) (by simp [results, Try.results5, go_sem]) rfl ⟨rfl, HQ.out⟩
  | false =>
  have K2 := hid (k2 rfl)
  have H2 := hid bw2
  clear k2 b2 bw2
  have hmem := bd_mem w2 _ _ A B (H.out.1.below H2.out) (H.out.2.below H2.out) (by have := K1.out.1; omega) (by have := K2.out.1; omega) (by have := K1.out.2; omega)
  have HM := hid hmem
  clear hmem
  cases hb : bothB (A.map PzV.m) (B.map PzV.m) with
  | false =>
    have hr : rowsZ (A.map PzV.m) (B.map PzV.m) = ⟨[], [], []⟩ := by unfold rowsZ; rw [hb]; rfl
    have HM2 := HM.out
    rw [hr, hb, show errZ false = 2 from rfl] at HM2
    have HM := hid HM2
    clear HM2 hr hb
    go_wp2_with fail
    refine HM.out.mono ?_
    rintro e w3 ⟨X, vl, vg, vp, Ll, Lg, Lp, rfl, b3, hv, hz⟩
    obtain ⟨l1, l2, l3, rfl⟩ := own_form hv.l.own
    obtain ⟨g1, g2, g3, rfl⟩ := own_form hv.g.own
    obtain ⟨p1, p2, p3, rfl⟩ := own_form hv.p.own
    have z1 : Ll = [] := by have := congrArg Rz.lost hz; simpa [rzV] using this
    have z2 : Lg = [] := by have := congrArg Rz.gained hz; simpa [rzV] using this
    have z3 : Lp = [] := by have := congrArg Rz.patches hz; simpa [rzV] using this
    have q1 : l2 = 0 := by have := RowsAt.len' (OwnPz.reads hv.l).rows; rw [z1] at this; simpa using this.symm
    have q2 : g2 = 0 := by have := RowsAt.len' (OwnPz.reads hv.g).rows; rw [z2] at this; simpa using this.symm
    have q3 : p2 = 0 := by have := RowsAt.len' (OwnPa.reads hv.p).rows; rw [z3] at this; simpa using this.symm
    subst q1 q2 q3
    have H3 := hid (H2.out.trans (b3.mono H2.out.size))
    clear b3 hv hz z1 z2 z3
    go_upto_region 4 with fail
    obtain ⟨w4, hw4⟩ : ∃ W, W = w3.alloc (.cells #[.slice l1 0 l3, .slice g1 0 g3, .slice p1 0 p3] 28) := ⟨_, rfl⟩
    have b4 : Below w3.heap.size w3 w4 := by rw [hw4]; exact (Below.refl _ _).alloc (Nat.le_refl _) _
    have r4 : RowAt w4 w3.heap.size 28 #[.slice l1 0 l3, .slice g1 0 g3, .slice p1 0 p3] := by rw [hw4]; exact heap_alloc_new w3 _
    rw [← hw4]
    have z0 : w4.cell? ⟨w3.heap.size, 0, none⟩ = some (.slice l1 0 l3) := r4.cell 0
    have z1 : w4.cell? ⟨w3.heap.size, 1, none⟩ = some (.slice g1 0 g3) := r4.cell 1
    have z2 : w4.cell? ⟨w3.heap.size, 2, none⟩ = some (.slice p1 0 p3) := r4.cell 2
    have H4 := hid (H3.out.trans (b4.mono H3.out.size))
    have e0 : IntKind.i64.wrap 0 = 0 := by rfl
    clear b4 r4 hw4
    go_wp2_with fail
    refine (lw_known _).mono ?_
    rintro e w5 ⟨rfl, b5⟩
    have HQ := hid (H4.out.trans (b5.mono H4.out.size))
    clear b5 z0 z1 z2
    go_wp2_with fail
    exact bodyPost_ret (v := .bool true) (by simp [results, Try.results5, go_sem]) rfl ⟨rfl, HQ.out⟩
  | true =>
    have hb2 := hb
    unfold bothB at hb2
    rw [Bool.and_eq_true] at hb2
    obtain ⟨hmA, hmB⟩ := hb2
    have hr : rowsZ (A.map PzV.m) (B.map PzV.m) = memZ (A.map PzV.m) (B.map PzV.m) := by unfold rowsZ; rw [if_pos hb]
    have HM2 := HM.out
    rw [hr, hb, show errZ true = 0 from rfl] at HM2
    have hok : OkR (memZ (A.map PzV.m) (B.map PzV.m)) := okR_mem hmA hmB (by have := K1.out.2; omega) (by have := K2.out.2; omega)
    have HM := hid HM2
    have HO := hid (And.intro hmA (And.intro hmB hok))
    clear HM2 hr hb hmA hmB hok
    go_wp2_with fail
    refine HM.out.mono ?_
    intro e w3 h3
    obtain ⟨l1, l2, l3, g1, g2, g3, p1, p2, p3, rfl, b3, hv3, -, -, -⟩ := mem_rows HO.out.2.2 h3
    have bw3 := H2.out.trans (b3.mono H2.out.size)
    have H3 := hid (And.intro bw3 hv3)
    clear h3 b3 hv3 bw3
    go_upto_region 4 with fail
    obtain ⟨w4, hw4⟩ : ∃ W, W = w3.alloc (.cells #[.slice l1 l2 l3, .slice g1 g2 g3, .slice p1 p2 p3] 28) := ⟨_, rfl⟩
    have b4 : Below w3.heap.size w3 w4 := by rw [hw4]; exact (Below.refl _ _).alloc (Nat.le_refl _) _
    have r4 : RowAt w4 w3.heap.size 28 #[.slice l1 l2 l3, .slice g1 g2 g3, .slice p1 p2 p3] := by rw [hw4]; exact heap_alloc_new w3 _
    rw [← hw4]
    have bw4 := H3.out.1.trans (b4.mono H3.out.1.size)
    have H4 := hid (And.intro bw4 (And.intro r4 (H3.out.2.below b4)))
    clear b4 r4 hw4 bw4
    have hcA := br_cells w4 _ A (H.out.1.below H4.out.1) (by have := K1.out.1; omega) (by have := K1.out.2; omega)
    have HCA := hid hcA
    clear hcA
    go_wp2_with fail
    refine HCA.out.mono ?_
    intro e w5 h5
    obtain ⟨s1, s2, s3, rfl, b5, hc5⟩ := cells_rows h5 HO.out.1
    have bw5 := H4.out.1.trans (b5.mono H4.out.1.size)
    have H5 := hid (And.intro bw5 (And.intro (RowAt.below H4.out.2.1 b5) (And.intro (H4.out.2.2.below b5) hc5)))
    clear h5 b5 hc5 bw5
    have hcB := br_cells w5 _ B (H.out.2.below H5.out.1) (by have := K2.out.1; omega) (by have := K2.out.2; omega)
    have HCB := hid hcB
    clear hcB
    go_wp2_with fail
    refine HCB.out.mono ?_
    intro e w6 h6
    obtain ⟨t1, t2, t3, rfl, b6, hc6⟩ := cells_rows h6 HO.out.2.1
    have bw6 := H5.out.1.trans (b6.mono H5.out.1.size)
    have r6 := RowAt.below H5.out.2.1 b6
    have hv6 := H5.out.2.2.1.below b6
    have hlay := rv_lay (H.out.1.below bw6) (by have := K1.out.1; omega) (by have := K1.out.2; omega) hv6
    rw [mem_lay HO.out.1 HO.out.2.1] at hlay
    have HL := hid hlay
    have z0 : w6.cell? ⟨w3.heap.size, 0, none⟩ = some (.slice l1 l2 l3) := r6.cell 0
    have z1 : w6.cell? ⟨w3.heap.size, 1, none⟩ = some (.slice g1 g2 g3) := r6.cell 1
    have z2 : w6.cell? ⟨w3.heap.size, 2, none⟩ = some (.slice p1 p2 p3) := r6.cell 2
    have H6 := hid (And.intro bw6 (And.intro r6 (And.intro hv6 (And.intro (H5.out.2.2.2.below b6) hc6))))
    clear h6 b6 hc6 bw6 r6 hv6 hlay
    go_wp2_with fail
    refine HL.out.mono ?_
    intro e w7 h7
    obtain ⟨x1, x2, x3, L7, rfl, b7, hp7, hm7⟩ := h7.getJ
    have bw7 := H6.out.1.trans (b7.mono H6.out.1.size)
    have r7 := RowAt.below H6.out.2.1 b7
    have hv7 := H6.out.2.2.1.below b7
    have z0 : w7.cell? ⟨w3.heap.size, 0, none⟩ = some (.slice l1 l2 l3) := r7.cell 0
    have z1 : w7.cell? ⟨w3.heap.size, 1, none⟩ = some (.slice g1 g2 g3) := r7.cell 1
    have z2 : w7.cell? ⟨w3.heap.size, 2, none⟩ = some (.slice p1 p2 p3) := r7.cell 2
    have HT := hid (rv_turn hv7)
    have H7 := hid (And.intro bw7 (And.intro r7 (And.intro hv7 (And.intro (H6.out.2.2.2.1.below b7) (And.intro (H6.out.2.2.2.2.below b7) (And.intro hp7 hm7))))))
    clear h7 b7 bw7 r7 hv7 hp7 hm7
    go_wp2_with fail
    refine HT.out.mono ?_
    rintro e w8 ⟨vt, rfl, b8, hvt⟩
    have bw8 := H7.out.1.trans (b8.mono H7.out.1.size)
    rw [mem_turn HO.out.1 HO.out.2.1] at hvt
    have hlay := rv_lay (H.out.2.below bw8) (by have := K2.out.1; omega) (by have := K2.out.2; omega) hvt
    rw [mem_lay HO.out.2.1 HO.out.1] at hlay
    have HL2 := hid hlay
    have H8 := hid (And.intro bw8 (And.intro (RowAt.below H7.out.2.1 b8) (And.intro (H7.out.2.2.1.below b8) (And.intro (H7.out.2.2.2.1.below b8) (And.intro (H7.out.2.2.2.2.1.below b8) (And.intro (H7.out.2.2.2.2.2.1.below b8) H7.out.2.2.2.2.2.2))))))
    clear b8 bw8 hvt hlay z0 z1 z2
    go_wp2_with fail
    refine HL2.out.mono ?_
    intro e w9 h9
    obtain ⟨y1, y2, y3, L9, rfl, b9, hp9, hm9⟩ := h9.getJ
    have bw9 := H8.out.1.trans (b9.mono H8.out.1.size)
    have hmem := bd_mem w9 _ _ A A (H.out.1.below bw9) (H.out.1.below bw9) (by have := K1.out.1; omega) (by have := K1.out.1; omega) (by have := K1.out.2; omega)
    have hbb : bothB (A.map PzV.m) (A.map PzV.m) = true := by unfold bothB; rw [HO.out.1]; rfl
    rw [hbb, show rowsZ (A.map PzV.m) (A.map PzV.m) = memZ (A.map PzV.m) (A.map PzV.m) from if_pos hbb, show errZ true = 0 from rfl, mem_self HO.out.1] at hmem
    have HM9 := hid hmem
    have H9 := hid (And.intro bw9 (And.intro (RowAt.below H8.out.2.1 b9) (And.intro (H8.out.2.2.1.below b9) (And.intro (H8.out.2.2.2.1.below b9) (And.intro (H8.out.2.2.2.2.1.below b9) (And.intro (H8.out.2.2.2.2.2.1.below b9) (And.intro H8.out.2.2.2.2.2.2 (And.intro hp9 hm9))))))))
    clear h9 b9 bw9 hp9 hm9 hmem hbb
    go_wp2_with fail
    refine HM9.out.mono ?_
    rintro e w10 ⟨X, vl, vg, vp, Ll, Lg, Lp, rfl, b10, hv, hz⟩
    obtain ⟨a1, a2, a3, rfl⟩ := own_form hv.l.own
    obtain ⟨c1, c2, c3, rfl⟩ := own_form hv.g.own
    obtain ⟨d1, d2, d3, rfl⟩ := own_form hv.p.own
    have z1 : Ll = [] := by have := congrArg Rz.lost hz; simpa [rzV] using this
    have z2 : Lg = [] := by have := congrArg Rz.gained hz; simpa [rzV] using this
    have z3 : Lp = [] := by have := congrArg Rz.patches hz; simpa [rzV] using this
    have q1 : a2 = 0 := by have := RowsAt.len' (OwnPz.reads hv.l).rows; rw [z1] at this; simpa using this.symm
    have q2 : c2 = 0 := by have := RowsAt.len' (OwnPz.reads hv.g).rows; rw [z2] at this; simpa using this.symm
    have q3 : d2 = 0 := by have := RowsAt.len' (OwnPa.reads hv.p).rows; rw [z3] at this; simpa using this.symm
    subst q1 q2 q3
    have H10 := hid b10
    clear b10 hv hz z1 z2 z3
    go_upto_region 11 with fail
    obtain ⟨wa, hwa⟩ : ∃ W, W = w10.alloc (.cells #[.slice a1 0 a3, .slice c1 0 c3, .slice d1 0 d3] 28) := ⟨_, rfl⟩
    have ba : Below w10.heap.size w10 wa := by rw [hwa]; exact (Below.refl _ _).alloc (Nat.le_refl _) _
    have ra : RowAt wa w10.heap.size 28 #[.slice a1 0 a3, .slice c1 0 c3, .slice d1 0 d3] := by rw [hwa]; exact heap_alloc_new w10 _
    rw [← hwa]
    have b9a := H10.out.trans (ba.mono H10.out.size)
    have HA := hid (And.intro (H9.out.1.trans (b9a.mono H9.out.1.size)) (And.intro (RowAt.below H9.out.2.1 b9a) (And.intro (H9.out.2.2.1.below b9a) (And.intro (H9.out.2.2.2.1.below b9a) (And.intro (H9.out.2.2.2.2.1.below b9a) (And.intro (H9.out.2.2.2.2.2.1.below b9a) (And.intro H9.out.2.2.2.2.2.2.1 (And.intro (H9.out.2.2.2.2.2.2.2.1.below b9a) (And.intro H9.out.2.2.2.2.2.2.2.2 ra)))))))))
    clear ba ra b9a hwa z0 z1 z2
    have hi0 : LaysI wa wa w3.heap.size #[.slice l1 l2 l3, .slice g1 g2 g3, .slice p1 p2 p3] (.agg #[.slice l1 l2 l3, .slice g1 g2 g3, .slice p1 p2 p3]) (memZ (A.map PzV.m) (B.map PzV.m)) := ⟨Below.refl _ _, HA.out.2.1, HA.out.2.2.1⟩
    have hi := hi0.below (below_drewP wa)
    have hmAB := mem_may HO.out.1 HO.out.2.1
    have hmBA := mem_may HO.out.2.1 HO.out.1
    have HT1 := hid (And.intro hmAB hmBA)
    have HT2 := hid (And.intro (mem_turn HO.out.1 HO.out.2.1) (mem_turn HO.out.2.1 HO.out.1))
    clear hi0 hmAB hmBA
    go_region_held (fun W => W.cell? ⟨w3.heap.size, 0, none⟩ = some (.slice l1 l2 l3) ∧ W.cell? ⟨w3.heap.size, 1, none⟩ = some (.slice g1 g2 g3) ∧ W.cell? ⟨w3.heap.size, 2, none⟩ = some (.slice p1 p2 p3)) (exact ⟨hi.box.cell 0, hi.box.cell 1, hi.box.cell 2⟩)
      (first
        | (go_at_call 20; (first | (with_reducible refine (rv_mayT hi.x HT1.out.1).mono ?_) | (with_reducible refine (rv_mayT ht HT1.out.2).mono ?_)); rintro e w6 ⟨rfl, b6⟩; have hi := hi.below b6; clear b6)
        | (go_at_call 22; (with_reducible refine (rv_turn hi.x).mono ?_); rintro e w6 ⟨vt, rfl, b6, ht⟩; rw [HT2.out.1] at ht; have hi := hi.below b6; clear b6)
        | (go_at_call 22; (with_reducible refine (rv_turn ht).mono ?_); rintro e w6 ⟨vu, rfl, b6, hu⟩; rw [HT2.out.2] at hu; have hi := hi.below b6; clear b6)
        | (go_at_call 13; (with_reducible refine (rv_same hu hi.x).mono ?_); rintro e w6 ⟨rfl, b6⟩; have hi := hi.below b6; clear b6)
        | fail "no call")
    all_goals
      have HE := hid hi.bel
      clear hi
      have l7 : L7.length ≤ 6000 := by
        have h1 := congrArg List.length HA.out.2.2.2.2.2.2.1
        rw [List.length_map] at h1
        have h2 := pieces_len (cellsZ (B.map PzV.m))
        have h3 := K2.out.2
        have h4 : L7.length = (piecesZ (cellsZ (B.map PzV.m))).length := h1
        omega
      have l9 : L9.length ≤ 6000 := by
        have h1 := congrArg List.length HA.out.2.2.2.2.2.2.2.2.1
        rw [List.length_map] at h1
        have h2 := pieces_len (cellsZ (A.map PzV.m))
        have h3 := K1.out.2
        have h4 : L9.length = (piecesZ (cellsZ (A.map PzV.m))).length := h1
        omega
      have HK := hid (And.intro l7 l9)
      clear l7 l9
      go_wp2_with fail
      refine (br_laid _ (.slice t1 t2 t3) (cellsZ (B.map PzV.m)) (HA.out.2.2.2.2.1.below HE.out) (cells_max (srt_of_may HO.out.2.1)) (by have := K2.out.2; omega)).mono ?_
      rintro e wb hb
      obtain ⟨u1, u2, u3, LB, rfl, bb, hpB, hmB⟩ := laid_get hb
      have HB := hid (And.intro (HE.out.trans (bb.mono HE.out.size)) (And.intro hpB hmB))
      clear hb bb hpB hmB
      go_wp2_with fail
      refine (br_same _ (.slice x1 x2 x3) (.slice u1 u2 u3) L7 LB (HA.out.2.2.2.2.2.1.below HB.out.1) HB.out.2.1 (HA.out.2.2.2.2.2.2.1.trans HB.out.2.2.symm) (by have := HK.out.1; omega)).mono ?_
      rintro e wc ⟨rfl, bc⟩
      have HC := hid (HB.out.1.trans (bc.mono HB.out.1.size))
      clear bc
      go_wp2_with fail
      refine (br_laid _ (.slice s1 s2 s3) (cellsZ (A.map PzV.m)) (HA.out.2.2.2.1.below HC.out) (cells_max (srt_of_may HO.out.1)) (by have := K1.out.2; omega)).mono ?_
      rintro e wd hd
      obtain ⟨k1, k2, k3, LA, rfl, bd, hpA, hmA⟩ := laid_get hd
      have HD := hid (And.intro (HC.out.trans (bd.mono HC.out.size)) (And.intro hpA hmA))
      clear hd bd hpA hmA
      go_wp2_with fail
      refine (br_same _ (.slice y1 y2 y3) (.slice k1 k2 k3) L9 LA (HA.out.2.2.2.2.2.2.2.1.below HD.out.1) HD.out.2.1 (HA.out.2.2.2.2.2.2.2.2.1.trans HD.out.2.2.symm) (by have := HK.out.2; omega)).mono ?_
      rintro e we ⟨rfl, be⟩
      have be2 := HD.out.1.trans (be.mono HD.out.1.size)
      have re := RowAt.below HA.out.2.2.2.2.2.2.2.2.2 be2
      have z0 : we.cell? ⟨w10.heap.size, 0, none⟩ = some (.slice a1 0 a3) := re.cell 0
      have z1 : we.cell? ⟨w10.heap.size, 1, none⟩ = some (.slice c1 0 c3) := re.cell 1
      have z2 : we.cell? ⟨w10.heap.size, 2, none⟩ = some (.slice d1 0 d3) := re.cell 2
      have e0 : IntKind.i64.wrap 0 = 0 := by rfl
      have HF := hid (HA.out.1.trans (be2.mono HA.out.1.size))
      clear be be2 re
      go_wp2_with fail
      refine (lw_known _).mono ?_
      rintro e wf ⟨rfl, bf⟩
      have HQ := hid (HF.out.trans (bf.mono HF.out.size))
      clear bf z0 z1 z2
      go_wp2_with fail
      exact bodyPost_ret (v := .bool true) (by simp [results, Try.results5, go_sem]) rfl ⟨rfl, HQ.out⟩
end Go.Proofs.Ythlnjfnjmjdohaa
