/- BesideMemory: the law, walked. -/
import Derived.Test.YthlnjfnjmjdohaaZLwB
import Derived.Test.YthlnjfnjmjdohaaZLwC
import Derived.Test.YthlnjfnjmjdohaaZBrD
import Derived.Deep.CutRange
namespace Go.Proofs.Ythlnjfnjmjdohaa
set_option linter.unusedSimpArgs false
set_option linter.unusedVariables false
open Go.RowKit

theorem u8_ok (z : Int) : 0 ≤ IntKind.u8.wrap z ∧ IntKind.u8.wrap z < 256 := by
  have e : IntKind.u8.wrap z = z % 256 := by simp [IntKind.wrap, IntKind.signed, IntKind.bits]
  rw [e]
  omega
theorem merge_len : ∀ (x y : List Cz), (mergeR x y).1.length ≤ x.length ∧ (mergeR x y).2.1.length ≤ y.length ∧ (mergeR x y).2.2.length ≤ x.length := by
  intro x y
  fun_induction mergeR x y with
  | case1 y => simp
  | case2 c x => simp
  | case3 c x d y h r ih => dsimp only; obtain ⟨i1, i2, i3⟩ := ih; simp only [List.length_cons] at i1 i2 i3 ⊢; first | exact ⟨by omega, by omega, by omega⟩ | (refine ⟨?_, ?_, ?_⟩ <;> (simp only [r]; omega)) | exact ⟨by omega, by omega, by omega⟩
  | case4 c x d y h1 h2 r ih => dsimp only; obtain ⟨i1, i2, i3⟩ := ih; simp only [List.length_cons] at i1 i2 i3 ⊢; first | exact ⟨by omega, by omega, by omega⟩ | (refine ⟨?_, ?_, ?_⟩ <;> (simp only [r]; omega)) | exact ⟨by omega, by omega, by omega⟩
  | case5 c x d y h1 h2 h3 r ih => dsimp only; obtain ⟨i1, i2, i3⟩ := ih; simp only [List.length_cons] at i1 i2 i3 ⊢; first | exact ⟨by omega, by omega, by omega⟩ | (refine ⟨?_, ?_, ?_⟩ <;> (simp only [r]; omega)) | exact ⟨by omega, by omega, by omega⟩
  | case6 c x d y h1 h2 h3 h4 r ih => dsimp only; obtain ⟨i1, i2, i3⟩ := ih; simp only [List.length_cons] at i1 i2 i3 ⊢; first | exact ⟨by omega, by omega, by omega⟩ | (refine ⟨?_, ?_, ?_⟩ <;> (simp only [r]; omega)) | exact ⟨by omega, by omega, by omega⟩
  | case7 c x d y h1 h2 h3 h4 ih => simp only [List.length_cons] at ih ⊢; omega
theorem rows_len (a b : List Pz) : (rowsZ a b).lost.length ≤ (cellsZ a).length ∧ (rowsZ a b).gained.length ≤ (cellsZ b).length ∧ (rowsZ a b).patches.length ≤ (cellsZ a).length := by
  unfold rowsZ
  split
  · obtain ⟨h1, h2, h3⟩ := merge_len (cellsZ a) (cellsZ b)
    refine ⟨Nat.le_trans (pieces_len _) h1, Nat.le_trans (pieces_len _) h2, Nat.le_trans (pushD_fold _ []) (by simpa using h3)⟩
  · simp

set_option maxHeartbeats 8000000 in
set_option maxRecDepth 8000 in
theorem lw_memory (hbr : ∀ (w : World) (va vb : Value) (A B : List PzV) (_ : PzsAt w va A) (_ : PzsAt w vb B) (_ : A.length ≤ 1000) (_ : B.length ≤ 1000) (_ : (cellsZ (A.map PzV.m)).length ≤ 90000) (_ : (cellsZ (B.map PzV.m)).length ≤ 90000),
      Calls Try.prog 10 #[va, vb] w (RMemEndG w (rowsZ (A.map PzV.m) (B.map PzV.m)) (errZ (bothB (A.map PzV.m) (B.map PzV.m)))))
    (w : World) (va vb : Value) (A B : List PzV) (hA : PzsAt w va A) (hB : PzsAt w vb B) : Calls Try.prog 3 #[va, vb] w fun e w' => e = .returned (.bool true) ∧ Below w.heap.size w w' := by
  obtain ⟨pa, ca, rfl⟩ := RowsAt.form hA.rows
  obtain ⟨pb, cb, rfl⟩ := RowsAt.form hB.rows
  obtain ⟨na, hna⟩ : ∃ n, n = A.length := ⟨_, rfl⟩
  obtain ⟨nb, hnb⟩ : ∃ n, n = B.length := ⟨_, rfl⟩
  rw [← hna] at hA ⊢
  rw [← hnb] at hB ⊢
  have HR := hid hbr
  have H0 := hid (And.intro hA hB)
  clear hA hB hna hnb hbr
  go_enter Try.func3, Try.ntmps3
  go_wp2_with fail
  refine (lw_much w _ A H0.out.1).mono ?_
  rintro e w1 ⟨m1, rfl, b1, k1⟩
  cases m1 with
  | true =>
    go_wp2_with fail
    refine (lw_known _).mono ?_
    rintro e w2 ⟨rfl, b2⟩
    have HQ := hid (b1.trans (b2.mono b1.size))
    clear b1 b2
    go_wp2_with fail
    exact bodyPost_ret (v := .bool true) (by simp [results, Try.results3, go_sem]) rfl ⟨rfl, HQ.out⟩
  | false =>
  have hB1 := H0.out.2.below b1
  have H1 := hid (And.intro b1 (And.intro (k1 rfl) hB1))
  clear b1 k1 hB1
  go_wp2_with fail
  refine (lw_much w1 _ B H1.out.2.2).mono ?_
  rintro e w2 ⟨m2, rfl, b2, k2⟩
  cases m2 with
  | true =>
    go_wp2_with fail
    refine (lw_known _).mono ?_
    rintro e w3 ⟨rfl, b3⟩
    have b2 := H1.out.1.trans (b2.mono H1.out.1.size)
    have HQ := hid (b2.trans (b3.mono b2.size))
    clear b2 b3
    go_wp2_with fail
    exact bodyPost_ret (v := .bool true) (by simp [results, Try.results3, go_sem]) rfl ⟨rfl, HQ.out⟩
  | false =>
  have b2 := H1.out.1.trans (b2.mono H1.out.1.size)
  have H2 := hid (And.intro (H0.out.1.below b2) (And.intro (H0.out.2.below b2) (And.intro H1.out.2.1 (k2 rfl))))
  have HW2 := hid b2
  clear b2 k2
  go_wp2_with fail
  refine (lw_own w2 _ A H2.out.1 (by have := H2.out.2.2.1.1; omega)).mono ?_
  rintro e w3 ⟨vx, A', rfl, b3, hA', mA'⟩
  obtain ⟨px, cx, ex⟩ := RowsAt.form hA'.rows
  obtain ⟨nx, hnx⟩ : ∃ n, n = A'.length := ⟨_, rfl⟩
  rw [← hnx] at ex
  subst ex
  have HW3 := hid (HW2.out.trans (b3.mono HW2.out.size))
  have H3 := hid (And.intro (H2.out.1.below b3) (And.intro (H2.out.2.1.below b3) (And.intro hA' mA')))
  clear b3 hA' mA' hnx
  go_wp2_with fail
  refine (lw_own w3 _ B H3.out.2.1 (by have := H2.out.2.2.2.1; omega)).mono ?_
  rintro e w4 ⟨vy, B', rfl, b4, hB', mB'⟩
  obtain ⟨py, cy, ey⟩ := RowsAt.form hB'.rows
  obtain ⟨ny, hny⟩ : ∃ n, n = B'.length := ⟨_, rfl⟩
  rw [← hny] at ey
  subst ey
  have HW4 := hid (HW3.out.trans (b4.mono HW3.out.size))
  have H4 := hid (And.intro (H3.out.1.below b4) (And.intro (H3.out.2.1.below b4) (And.intro (H3.out.2.2.1.below b4) (And.intro hB' (And.intro H3.out.2.2.2 mB')))))
  clear b4 hB' mB' hny
  have hlA : A'.length ≤ 60 := by have h1 := congrArg List.length H4.out.2.2.2.2.1; have := H2.out.2.2.1.1; simp at h1; omega
  have hlB : B'.length ≤ 60 := by have h1 := congrArg List.length H4.out.2.2.2.2.2; have := H2.out.2.2.2.1; simp at h1; omega
  have HL := hid (And.intro hlA hlB)
  clear hlA hlB
  go_wp2_with fail
  have hmem := bd_mem w4 _ _ A' B' H4.out.2.2.1 H4.out.2.2.2.1 (by have := HL.out.1; omega) (by have := HL.out.2; omega) (by rw [H4.out.2.2.2.2.1]; have := H2.out.2.2.1.2; omega)
  rw [H4.out.2.2.2.2.1, H4.out.2.2.2.2.2] at hmem
  refine hmem.mono ?_
  clear hmem
  obtain ⟨ev, hev⟩ : ∃ ev, ev = errZ (bothB (A.map PzV.m) (B.map PzV.m)) := ⟨_, rfl⟩
  rw [← hev]
  rintro e w5 ⟨X, vl, vg, vp, Ll, Lg, Lp, rfl, b5, hv, hrz⟩
  obtain ⟨l1, l2, l3, rfl⟩ := own_form hv.l.own
  obtain ⟨g1, g2, g3, rfl⟩ := own_form hv.g.own
  obtain ⟨p1, p2, p3, rfl⟩ := own_form hv.p.own
  have HE := hid hev
  have H5 := hid (And.intro b5 (And.intro hv hrz))
  clear b5 hv hrz hev
  go_upto_region 5 with fail
  obtain ⟨w6, hw6⟩ : ∃ W, W = w5.alloc (.cells #[.slice l1 l2 l3, .slice g1 g2 g3, .slice p1 p2 p3] 28) := ⟨_, rfl⟩
  have b6 : Below w5.heap.size w5 w6 := by rw [hw6]; exact (Below.refl _ _).alloc (Nat.le_refl _) _
  have r6 : RowAt w6 w5.heap.size 28 #[.slice l1 l2 l3, .slice g1 g2 g3, .slice p1 p2 p3] := by rw [hw6]; exact heap_alloc_new w5 _
  rw [← hw6]
  have b46 := H5.out.1.trans (b6.mono H5.out.1.size)
  have H6 := hid (And.intro b46 (And.intro b6 (And.intro r6 (And.intro (H5.out.2.1.l.below b6) (And.intro (H5.out.2.1.g.below b6) (H5.out.2.1.p.below b6))))))
  clear hw6 b6 r6 b46
  have hmem := HR.out w6 _ _ A B (H4.out.1.below H6.out.1) (H4.out.2.1.below H6.out.1) (by have := H2.out.2.2.1.1; omega) (by have := H2.out.2.2.2.1; omega) (by have := H2.out.2.2.1.2; omega) (by have := H2.out.2.2.2.2; omega)
  rw [← HE.out] at hmem
  go_wp2_with fail
  refine hmem.mono ?_
  clear hmem
  rintro e w7 ⟨ul, ug, up, Ml, Mg, Mp, rfl, b7, hl7, hg7, hp7, hrz7⟩
  obtain ⟨l4, l6, e1⟩ := RowsAt.form hl7.rows
  obtain ⟨g4, g6, e2⟩ := RowsAt.form hg7.rows
  obtain ⟨p4, p6, e3⟩ := RowsAt.form hp7.rows
  obtain ⟨l5, hl5⟩ : ∃ n, n = Ml.length := ⟨_, rfl⟩
  obtain ⟨g5, hg5⟩ : ∃ n, n = Mg.length := ⟨_, rfl⟩
  obtain ⟨p5, hp5⟩ : ∃ n, n = Mp.length := ⟨_, rfl⟩
  rw [← hl5] at e1
  rw [← hg5] at e2
  rw [← hp5] at e3
  subst e1 e2 e3
  have H7 := hid (And.intro b7 (And.intro hl7 (And.intro hg7 (And.intro hp7 hrz7))))
  clear b7 hl7 hg7 hp7 hrz7 hl5 hg5 hp5
  go_upto_region 6 with fail
  obtain ⟨w8, hw8⟩ : ∃ W, W = w7.alloc (.cells #[.slice l4 l5 l6, .slice g4 g5 g6, .slice p4 p5 p6] 28) := ⟨_, rfl⟩
  have b8 : Below w7.heap.size w7 w8 := by rw [hw8]; exact (Below.refl _ _).alloc (Nat.le_refl _) _
  have r8 : RowAt w8 w7.heap.size 28 #[.slice l4 l5 l6, .slice g4 g5 g6, .slice p4 p5 p6] := by rw [hw8]; exact heap_alloc_new w7 _
  rw [← hw8]
  have b68 := H7.out.1.trans (b8.mono H7.out.1.size)
  have H8 := hid (And.intro b68 (And.intro b8 r8))
  clear hw8 b8 r8 b68
  have b48 := H6.out.1.trans (H8.out.1.mono H6.out.1.size)
  have hce := br_cells w8 _ A (H4.out.1.below b48) (by have := H2.out.2.2.1.1; omega) (by have := H2.out.2.2.1.2; omega)
  have HB8 := hid b48
  clear b48
  go_wp2_with fail
  refine hce.mono ?_
  clear hce
  obtain ⟨mm, hmm⟩ : ∃ mm, mm = mayZ (A.map PzV.m) := ⟨_, rfl⟩
  rintro e w9 ⟨vc, rfl, b9, hoc⟩
  obtain ⟨c1, c2, c3, rfl⟩ := own_form hoc
  rw [← hmm] at hoc ⊢
  have b49 := HB8.out.trans (b9.mono HB8.out.size)
  have hla := bd_laid_any w9 _ A' (H4.out.2.2.1.below b49) (by have := HL.out.1; omega)
  rw [H4.out.2.2.2.2.1] at hla
  have H9 := hid (And.intro b9 (And.intro b49 (own3_reads czLen hoc)))
  have HM := hid hmm
  clear b9 b49 hoc hmm
  go_wp2_with fail
  refine hla.mono ?_
  clear hla
  rintro e w10 ⟨vd, Ld, rfl, b10, hod, hmd⟩
  obtain ⟨d1, d2, d3, rfl⟩ := own_form hod.own
  rw [← HM.out] at hmd ⊢
  obtain ⟨ge, hge⟩ : ∃ ge : Int, ge = if mm = true then 0 else 2 := ⟨_, rfl⟩
  rw [← hge]
  have HGE := hid hge
  clear hge
  have H10 := hid (And.intro b10 (And.intro (H9.out.2.1.trans (b10.mono H9.out.2.1.size)) (And.intro hod hmd)))
  clear b10 hod hmd
  have hlen : Ll.length ≤ 6000 ∧ Lg.length ≤ 6000 ∧ Lp.length ≤ 6000 := by
    obtain ⟨h1, h2, h3⟩ := rows_len (A.map PzV.m) (B.map PzV.m)
    rw [← H5.out.2.2] at h1 h2 h3
    simp only [rzV, List.length_map] at h1 h2 h3
    have := H2.out.2.2.1.2
    have := H2.out.2.2.2.2
    omega
  have HN := hid hlen
  clear hlen
  go_upto_region 8 with fail
  go_cut [86] (fun t86 wx => t86 = .bool false ∧ Below w10.heap.size w10 wx)
  case first =>
    have b8 := H9.out.1.trans (H10.out.1.mono H9.out.1.size)
    have b6 := H8.out.1.trans (b8.mono H8.out.1.size)
    have b7 := H8.out.2.1.trans (b8.mono H8.out.2.1.size)
    have R1 := RowAt.below H6.out.2.2.1 b6
    have R2 := RowAt.below H8.out.2.2 b8
    have z0 : w10.cell? ⟨w5.heap.size, 0, none⟩ = some (.slice l1 l2 l3) := R1.cell 0
    have z1 : w10.cell? ⟨w5.heap.size, 1, none⟩ = some (.slice g1 g2 g3) := R1.cell 1
    have z2 : w10.cell? ⟨w5.heap.size, 2, none⟩ = some (.slice p1 p2 p3) := R1.cell 2
    have y0 : w10.cell? ⟨w7.heap.size, 0, none⟩ = some (.slice l4 l5 l6) := R2.cell 0
    have y1 : w10.cell? ⟨w7.heap.size, 1, none⟩ = some (.slice g4 g5 g6) := R2.cell 1
    have y2 : w10.cell? ⟨w7.heap.size, 2, none⟩ = some (.slice p4 p5 p6) := R2.cell 2
    have hsr := br_rows w10 (.slice l1 l2 l3) (.slice g1 g2 g3) (.slice p1 p2 p3) (.slice l4 l5 l6) (.slice g4 g5 g6) (.slice p4 p5 p6) Ll Lg Ml Mg Lp Mp (OwnPz.reads (H6.out.2.2.2.1.below b6)) (OwnPz.reads (H6.out.2.2.2.2.1.below b6)) (OwnPa.reads (H6.out.2.2.2.2.2.below b6)) (H7.out.2.1.below b7) (H7.out.2.2.1.below b7) (H7.out.2.2.2.1.below b7) (H5.out.2.2.trans H7.out.2.2.2.2.symm) (by have := HN.out; omega) (by have := HN.out; omega) (by have := HN.out; omega)
    have HS := hid hsr
    have HX : Hid (∀ W, Below w10.heap.size w10 W → PzsAt W (.slice px nx cx) A' ∧ RowsAt czC 3 W (.slice c1 c2 c3) (if mm = true then cellsZ (A.map PzV.m) else []) ∧ PzsAt W (.slice d1 d2 d3) Ld) := hid (fun W hb =>
      ⟨H4.out.2.2.1.below (H10.out.2.1.trans (hb.mono H10.out.2.1.size)), H9.out.2.2.below (H10.out.1.trans (hb.mono H10.out.1.size)), OwnPz.reads (H10.out.2.2.1.below hb)⟩)
    have hLd : Ld.length ≤ 1000000 := by
      have h1 := congrArg List.length H10.out.2.2.2
      have h2 := pieces_len (cellsZ (A.map PzV.m))
      have h3 := H2.out.2.2.1.2
      have h4 : (if mm = true then piecesZ (cellsZ (A.map PzV.m)) else []).length ≤ (piecesZ (cellsZ (A.map PzV.m))).length := by split <;> simp
      rw [List.length_map] at h1
      omega
    have HD := hid hLd
    clear b8 b6 b7 R1 R2 hsr hLd
    have hmay : ∀ W, Below w10.heap.size w10 W → Calls Try.prog 14 #[.slice px nx cx] W fun e w' => e = .returned (.bool mm) ∧ Below W.heap.size W w' := fun W hb => by
      have := bd_may W _ A' (HX.out W hb).1
      rw [H4.out.2.2.2.2.1, ← HM.out] at this
      exact this
    have HY := hid hmay
    have hpc : ∀ W, Below w10.heap.size w10 W → Calls Try.prog 16 #[.slice c1 c2 c3] W fun e w' => ∃ v' L', e = .returned v' ∧ Below W.heap.size W w' ∧ PzsAt w' v' L' ∧ Ld.map PzV.m = L'.map PzV.m := fun W hb => by
      refine (br_laid W _ _ (HX.out W hb).2.1 ?_ ?_).mono ?_
      · intro c hc
        split at hc
        · rename_i hm
          rw [HM.out] at hm
          exact cells_max (srt_of_may hm) c hc
        · cases hc
      · have := H2.out.2.2.1.2
        split
        · omega
        · simp
      · rintro e w' ⟨v', rfl, hb', L', ho, hL'⟩
        refine ⟨v', L', rfl, hb', ho.reads, ?_⟩
        rw [H10.out.2.2.2, hL']
        split <;> rfl
    have HP := hid hpc
    clear hmay hpc
    cases mm with
    | false =>
      have eg : ge = 2 := HGE.out
      subst eg
      go_wp2_with fail
      refine HS.out.mono ?_
      rintro e w11 ⟨rfl, b11⟩
      have B11 := hid b11
      clear b11 z0 z1 z2 y0 y1 y2
      go_wp2_with fail
      refine (HY.out w11 B11.out).mono ?_
      rintro e w12 ⟨rfl, b12⟩
      have B12 := hid (B11.out.trans (b12.mono B11.out.size))
      clear b12
      go_wp2_with fail
      refine (HP.out w12 B12.out).mono ?_
      rintro e w13 ⟨vq, Lq, rfl, b13, hq, hqm⟩
      obtain ⟨q1, q2, eq⟩ := RowsAt.form hq.rows
      obtain ⟨q3, hq3⟩ : ∃ n, n = Lq.length := ⟨_, rfl⟩
      rw [← hq3] at eq
      subst eq
      have B13 := hid (And.intro (B12.out.trans (b13.mono B12.out.size)) (And.intro hq hqm))
      clear b13 hq hqm hq3
      go_wp2_with fail
      refine (br_same w13 _ _ Ld Lq (HX.out w13 B13.out.1).2.2 B13.out.2.1 B13.out.2.2 HD.out).mono ?_
      rintro e w14 ⟨rfl, b14⟩
      have B14 := hid (B13.out.1.trans (b14.mono B13.out.1.size))
      clear b14
      go_wp2_with fail
      go_meet
      exact ⟨rfl, B14.out⟩
    | true =>
      have eg : ge = 0 := HGE.out
      subst eg
      go_wp2_with fail
      refine HS.out.mono ?_
      rintro e w11 ⟨rfl, b11⟩
      have B11 := hid b11
      clear b11 z0 z1 z2 y0 y1 y2
      go_wp2_with fail
      refine (HY.out w11 B11.out).mono ?_
      rintro e w12 ⟨rfl, b12⟩
      have B12 := hid (B11.out.trans (b12.mono B11.out.size))
      clear b12
      go_wp2_with fail
      refine (HP.out w12 B12.out).mono ?_
      rintro e w13 ⟨vq, Lq, rfl, b13, hq, hqm⟩
      obtain ⟨q1, q2, eq⟩ := RowsAt.form hq.rows
      obtain ⟨q3, hq3⟩ : ∃ n, n = Lq.length := ⟨_, rfl⟩
      rw [← hq3] at eq
      subst eq
      have B13 := hid (And.intro (B12.out.trans (b13.mono B12.out.size)) (And.intro hq hqm))
      clear b13 hq hqm hq3
      go_wp2_with fail
      refine (br_same w13 _ _ Ld Lq (HX.out w13 B13.out.1).2.2 B13.out.2.1 B13.out.2.2 HD.out).mono ?_
      rintro e w14 ⟨rfl, b14⟩
      have B14 := hid (B13.out.1.trans (b14.mono B13.out.1.size))
      clear b14
      go_wp2_with fail
      go_meet
      exact ⟨rfl, B14.out⟩
  case rest =>
    obtain ⟨rfl, hb⟩ := hcut
    have b8 := H9.out.1.trans (H10.out.1.mono H9.out.1.size)
    have b6 := H8.out.1.trans (b8.mono H8.out.1.size)
    have b6c := b6.trans (hb.mono b6.size)
    have R1 := RowAt.below H6.out.2.2.1 b6c
    have hOl := H6.out.2.2.2.1.below b6c
    have hOg := H6.out.2.2.2.2.1.below b6c
    have hOd := H10.out.2.2.1.below hb
    have hl2 : Ll.length = l2 := RowsAt.len' (OwnPz.reads hOl).rows
    have hg2 : Lg.length = g2 := RowsAt.len' (OwnPz.reads hOg).rows
    have hd2 : Ld.length = d2 := RowsAt.len' (OwnPz.reads hOd).rows
    have hl6 : l2 ≤ 6000 := by rw [← hl2]; exact HN.out.1
    have hg6 : g2 ≤ 6000 := by rw [← hg2]; exact HN.out.2.1
    have hd6 : d2 ≤ 6000 := by
      rw [← hd2]
      have h1 := congrArg List.length H10.out.2.2.2
      have h2 := pieces_len (cellsZ (A.map PzV.m))
      have h3 := H2.out.2.2.1.2
      have h4 : (if mm = true then piecesZ (cellsZ (A.map PzV.m)) else []).length ≤ (piecesZ (cellsZ (A.map PzV.m))).length := by split <;> simp
      rw [List.length_map] at h1
      omega
    have s45 := H5.out.1.size
    have s56 : w5.heap.size < w6.heap.size := H6.out.2.2.1.lt
    have s69 : w6.heap.size ≤ w9.heap.size := (H8.out.1.trans (H9.out.1.mono H8.out.1.size)).size
    have hGl : ∀ k, HotG Ll k → w4.heap.size ≤ k ∧ k < w5.heap.size ∧ ¬ blkPz (.slice g1 g2 g3) Lg k := fun k hk => by
      have h1 := H5.out.2.1.dl k (.inr hk)
      obtain ⟨x, hx, e⟩ := hk
      exact ⟨h1.1.1, H5.out.2.1.l.lt.2 x hx k e, h1.2.1⟩
    have hGg : ∀ k, HotG Lg k → w4.heap.size ≤ k ∧ k < w5.heap.size := fun k hk => by
      have h1 := H5.out.2.1.dg k (.inr hk)
      obtain ⟨x, hx, e⟩ := hk
      exact ⟨h1.1.1, H5.out.2.1.g.lt.2 x hx k e⟩
    have hGd : ∀ k, blkPz (.slice d1 d2 d3) Ld k → w9.heap.size ≤ k := fun k hk => (H10.out.2.2.1.sub k hk).1
    have hb4 : Below w4.heap.size w4 wc := H10.out.2.1.trans (hb.mono H10.out.2.1.size)
    have HG := hid (And.intro hGl (And.intro hGg (And.intro hGd (And.intro s45 (And.intro s56 s69)))))
    have HO := hid (And.intro R1 (And.intro hOl (And.intro hOg (And.intro hOd (And.intro hl2 (And.intro hg2 (And.intro hd2 (And.intro hl6 (And.intro hg6 (And.intro hd6 hb4))))))))))
    clear b8 b6 b6c R1 hOl hOg hOd hl2 hg2 hd2 hl6 hg6 hd6 s45 s56 s69 hGl hGg hGd hb4 hb
    go_wp2_with fail
    go_loopw [15] (fun vi wr => ∃ i : Nat, i ≤ l2 ∧ vi = .int .i64 (i : Int) ∧ Hot (HotG Ll) wc wr) (fun vi _ => l2 - (intOf vi).toNat)
    case atStart => exact ⟨0, Nat.zero_le _, rfl, Hot.start HO.out.2.1⟩
    case round =>
      obtain ⟨i, hi, rfl, hh⟩ := hrel
      have z0 : wr.cell? ⟨w5.heap.size, 0, none⟩ = some (.slice l1 l2 l3) := (World.cell?_of_block (hh.keep w5.heap.size (fun e => by have := (HG.out.1 _ e).2.1; omega))).trans (HO.out.1.cell 0)
      by_cases hlt : i < l2
      · obtain ⟨x, hx⟩ : ∃ x, Ll[i]? = some x := ⟨_, List.getElem?_eq_getElem (by rw [HO.out.2.2.2.2.1]; exact hlt)⟩
        obtain ⟨g, cap, q, c, z, e1, e2, y2, h1, h2, y3, y4, hpos, hq⟩ := hh.read HO.out.2.1 hx
        rw [HO.out.2.2.2.2.1] at e1
        cases e1
        rw [e2] at y2
        obtain ⟨n, hn⟩ : ∃ n, n = x.bytes.length := ⟨_, rfl⟩
        rw [← hn] at y2 hpos
        obtain ⟨z', hz', h1', h2'⟩ : ∃ z', IntKind.u8.wrap (z + 1) = z' ∧ 0 ≤ z' ∧ z' < 256 := ⟨_, rfl, u8_ok _⟩
        have i1 : (0 : Int) ≤ (i : Int) := by omega
        have i2 : (i : Int) < (l2 : Int) := by omega
        have j1 : (0 : Int) < (n : Int) := by omega
        have hltz : decide ((i : Int) < (l2 : Int)) = true := by rw [decide_eq_true_eq]; omega
        have hltn : decide (i < l2) = true := by rw [decide_eq_true_eq]; omega
        have hwk : IntKind.i64.wrap ((i : Int) + 1) = ((i + 1 : Nat) : Int) := (IntWalk.i64_in _ (by have := HO.out.2.2.2.2.2.2.2.1; omega)).trans (by omega)
        have HW := hid (And.intro (hh.step hq z' h1' h2') hlt)
        clear hh h1 h2 hn hq h1' h2' hlt hi hx e2
        go_wp2_with fail
        exact ⟨⟨i + 1, by have := HW.out.2; omega, rfl, HW.out.1⟩, by have := HW.out.2; simp only [intOf, Int.toNat_natCast]; omega⟩
      · have hltz : decide ((i : Int) < (l2 : Int)) = false := by rw [decide_eq_false_iff_not]; omega
        have hltn : decide (i < l2) = false := by rw [decide_eq_false_iff_not]; omega
        obtain ⟨wa, hwa⟩ : ∃ wa, wa = wr := ⟨_, rfl⟩
        have hOg2 : OwnPz (blkPz (.slice g1 g2 g3) Lg) wa (.slice g1 g2 g3) Lg := by
          rw [hwa]
          exact HO.out.2.2.1.hot hh (fun k hk e => (HG.out.1 k e).2.2 hk)
        have hOd2 : OwnPz (New w9 w10) wa (.slice d1 d2 d3) Ld := by
          rw [hwa]
          exact HO.out.2.2.2.1.hot hh (fun k hk e => by have h1 := HG.out.2.2.1 k hk; have h2 := (HG.out.1 k e).2.1; have h3 := HG.out.2.2.2; omega)
        have hb4 : Below w4.heap.size w4 wa := by rw [hwa]; exact HO.out.2.2.2.2.2.2.2.2.2.2.trans (hh.bel (fun k hk => (HG.out.1 k hk).1) (by have := HO.out.2.2.2.2.2.2.2.2.2.2.size; omega))
        have zz : wa.cell? ⟨w5.heap.size, 1, none⟩ = some (.slice g1 g2 g3) := by rw [hwa]; exact (World.cell?_of_block (hh.keep w5.heap.size (fun e => by have := (HG.out.1 _ e).2.1; omega))).trans (HO.out.1.cell 1)
        rw [← hwa]
        have z0 : wa.cell? ⟨w5.heap.size, 0, none⟩ = some (.slice l1 l2 l3) := by rw [hwa]; exact z0
        have HA := hid (And.intro True.intro (And.intro zz (And.intro hOg2 (And.intro hOd2 hb4))))
        clear hwa hOg2 hOd2 hb4 zz hh hlt hi
        go_wp2_with fail
        clear z0
        go_loopw [16] (fun vi wr => ∃ i : Nat, i ≤ g2 ∧ vi = .int .i64 (i : Int) ∧ Hot (HotG Lg) wa wr) (fun vi _ => g2 - (intOf vi).toNat)
        case atStart => exact ⟨0, Nat.zero_le _, rfl, Hot.start HA.out.2.2.1⟩
        case round =>
          obtain ⟨i, hi, rfl, hh⟩ := hrel
          have z0 : wr.cell? ⟨w5.heap.size, 1, none⟩ = some (.slice g1 g2 g3) := (World.cell?_of_block (hh.keep w5.heap.size (fun e => by have := (HG.out.2.1 _ e).2; omega))).trans HA.out.2.1
          by_cases hlt : i < g2
          · obtain ⟨x, hx⟩ : ∃ x, Lg[i]? = some x := ⟨_, List.getElem?_eq_getElem (by rw [HO.out.2.2.2.2.2.1]; exact hlt)⟩
            obtain ⟨g, cap, q, c, z, e1, e2, y2, h1, h2, y3, y4, hpos, hq⟩ := hh.read HA.out.2.2.1 hx
            rw [HO.out.2.2.2.2.2.1] at e1
            cases e1
            rw [e2] at y2
            obtain ⟨n, hn⟩ : ∃ n, n = x.bytes.length := ⟨_, rfl⟩
            rw [← hn] at y2 hpos
            obtain ⟨z', hz', h1', h2'⟩ : ∃ z', IntKind.u8.wrap (z + 1) = z' ∧ 0 ≤ z' ∧ z' < 256 := ⟨_, rfl, u8_ok _⟩
            have i1 : (0 : Int) ≤ (i : Int) := by omega
            have i2 : (i : Int) < (g2 : Int) := by omega
            have j1 : (0 : Int) < (n : Int) := by omega
            have hltz : decide ((i : Int) < (g2 : Int)) = true := by rw [decide_eq_true_eq]; omega
            have hltn : decide (i < g2) = true := by rw [decide_eq_true_eq]; omega
            have hwk : IntKind.i64.wrap ((i : Int) + 1) = ((i + 1 : Nat) : Int) := (IntWalk.i64_in _ (by have := HO.out.2.2.2.2.2.2.2.2.1; omega)).trans (by omega)
            have HW := hid (And.intro (hh.step hq z' h1' h2') hlt)
            clear hh h1 h2 hn hq h1' h2' hlt hi hx e2
            go_wp2_with fail
            exact ⟨⟨i + 1, by have := HW.out.2; omega, rfl, HW.out.1⟩, by have := HW.out.2; simp only [intOf, Int.toNat_natCast]; omega⟩
          · have hltz : decide ((i : Int) < (g2 : Int)) = false := by rw [decide_eq_false_iff_not]; omega
            have hltn : decide (i < g2) = false := by rw [decide_eq_false_iff_not]; omega
            have hd1 : OwnPz (New w9 w10) wa (.slice d1 d2 d3) Ld := HA.out.2.2.2.1
            have hbf : Below w4.heap.size wa wr := hh.bel (fun k hk => (HG.out.2.1 k hk).1) (by have := HA.out.2.2.2.2.size; omega)
            obtain ⟨wb, hwb⟩ : ∃ wb, wb = wr := ⟨_, rfl⟩
            have hOd2 : OwnPz (New w9 w10) wb (.slice d1 d2 d3) Ld := by
              rw [hwb]
              exact hd1.hot hh (fun k hk e => by have h1 := HG.out.2.2.1 k hk; have h2 := (HG.out.2.1 k e).2; have h3 := HG.out.2.2.2; omega)
            have hb4 : Below w4.heap.size w4 wb := by rw [hwb]; exact HA.out.2.2.2.2.trans hbf
            rw [← hwb]
            have HB2 := hid (And.intro True.intro (And.intro hOd2 hb4))
            have z0 : wb.cell? ⟨w5.heap.size, 1, none⟩ = some (.slice g1 g2 g3) := by rw [hwb]; exact z0
            clear hd1 hbf hwb hOd2 hb4 hh hlt hi
            go_wp2_with fail
            clear z0
            go_loopw [17] (fun vi wr => ∃ i : Nat, i ≤ d2 ∧ vi = .int .i64 (i : Int) ∧ Hot (HotG Ld) wb wr) (fun vi _ => d2 - (intOf vi).toNat)
            case atStart => exact ⟨0, Nat.zero_le _, rfl, Hot.start HB2.out.2.1⟩
            case round =>
              obtain ⟨i, hi, rfl, hh⟩ := hrel
              by_cases hlt : i < d2
              · obtain ⟨x, hx⟩ : ∃ x, Ld[i]? = some x := ⟨_, List.getElem?_eq_getElem (by rw [HO.out.2.2.2.2.2.2.1]; exact hlt)⟩
                obtain ⟨g, cap, q, c, z, e1, e2, y2, h1, h2, y3, y4, hpos, hq⟩ := hh.read HB2.out.2.1 hx
                rw [HO.out.2.2.2.2.2.2.1] at e1
                cases e1
                rw [e2] at y2
                obtain ⟨n, hn⟩ : ∃ n, n = x.bytes.length := ⟨_, rfl⟩
                rw [← hn] at y2 hpos
                obtain ⟨z', hz', h1', h2'⟩ : ∃ z', IntKind.u8.wrap (z + 1) = z' ∧ 0 ≤ z' ∧ z' < 256 := ⟨_, rfl, u8_ok _⟩
                have i1 : (0 : Int) ≤ (i : Int) := by omega
                have i2 : (i : Int) < (d2 : Int) := by omega
                have j1 : (0 : Int) < (n : Int) := by omega
                have hltz : decide ((i : Int) < (d2 : Int)) = true := by rw [decide_eq_true_eq]; omega
                have hltn : decide (i < d2) = true := by rw [decide_eq_true_eq]; omega
                have hwk : IntKind.i64.wrap ((i : Int) + 1) = ((i + 1 : Nat) : Int) := (IntWalk.i64_in _ (by have := HO.out.2.2.2.2.2.2.2.2.2.1; omega)).trans (by omega)
                have HW := hid (And.intro (hh.step hq z' h1' h2') hlt)
                clear hh h1 h2 hn hq h1' h2' hlt hi hx e2
                go_wp2_with fail
                exact ⟨⟨i + 1, by have := HW.out.2; omega, rfl, HW.out.1⟩, by have := HW.out.2; simp only [intOf, Int.toNat_natCast]; omega⟩
              · have hltz : decide ((i : Int) < (d2 : Int)) = false := by rw [decide_eq_false_iff_not]; omega
                have hltn : decide (i < d2) = false := by rw [decide_eq_false_iff_not]; omega
                have hbf : Below w4.heap.size wb wr := hh.bel (fun k hk => by have h1 := HG.out.2.2.1 k (.inr hk); have h2 := HG.out.2.2.2; omega) (by have := HB2.out.2.2.size; omega)
                have HF := hid (HB2.out.2.2.trans hbf)
                clear hh hlt hi hbf
                go_wp2_with fail
                refine (br_same wr _ _ A' A (H4.out.2.2.1.below HF.out) (H4.out.1.below HF.out) H4.out.2.2.2.2.1 (by have := HL.out.1; omega)).mono ?_
                rintro e u1 ⟨rfl, c1⟩
                have HU := hid (HF.out.trans (c1.mono HF.out.size))
                clear c1
                go_wp2_with fail
                refine (br_same u1 _ _ B' B (H4.out.2.2.2.1.below HU.out) (H4.out.2.1.below HU.out) H4.out.2.2.2.2.2 (by have := HL.out.2; omega)).mono ?_
                rintro e u2 ⟨rfl, c2⟩
                have HU2 := hid (HU.out.trans (c2.mono HU.out.size))
                clear c2
                go_wp2_with fail
                refine (lw_known _).mono ?_
                rintro e u3 ⟨rfl, c3⟩
                have HU3 := hid (HW4.out.trans ((HU2.out.trans (c3.mono HU2.out.size)).mono HW4.out.size))
                clear c3
                go_wp2_with fail
                exact bodyPost_ret (v := .bool true) (by simp [results, Try.results3, go_sem]) rfl ⟨rfl, HU3.out⟩
end Go.Proofs.Ythlnjfnjmjdohaa
