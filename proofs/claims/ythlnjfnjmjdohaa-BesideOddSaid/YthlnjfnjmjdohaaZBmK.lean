/- May rows be, as the document asks: walked. -/
import Derived.Test.YthlnjfnjmjdohaaZBmJ
import Derived.Laws.MakeOwn
namespace Go.Proofs.Ythlnjfnjmjdohaa
set_option linter.unusedSimpArgs false
set_option linter.unusedVariables false
open Go.RowKit

theorem CellsEnd.get {w w' : World} {L : List Pz} {e : Ending} (h : CellsEnd w L e w') : ∃ p n c, e = .returned (.tuple #[.slice p n c, .bool (mayZ L)]) ∧ Below w.heap.size w w' ∧ (mayZ L = true → RowsAt czC 3 w' (.slice p n c) (cellsZ L) ∧ n = (cellsZ L).length) := by
  obtain ⟨v, h1, h2, h3⟩ := h
  obtain ⟨p, n, c, rfl⟩ := own_form h3
  refine ⟨p, n, c, h1, h2, fun hm => ?_⟩
  rw [if_pos hm] at h3
  have hr := own3_reads czLen h3
  exact ⟨hr, (RowsAt.len' hr).symm⟩
theorem okFrom_fail {lost gained : List Cz} {last : Nat} {P : List Gz} {k : Nat} {g : Gz} (hg : P[k]? = some g) (h : okPatch lost gained last g = false) : okFrom lost gained last (P.drop k) = false := by
  rw [drop_at hg, okFrom, h]; rfl
theorem okFrom_next {lost gained : List Cz} {last : Nat} {P : List Gz} {k : Nat} {g : Gz} (hg : P[k]? = some g) (h : okPatch lost gained last g = true) : okFrom lost gained last (P.drop k) = okFrom lost gained (g.at_ + g.old.length) (P.drop (k + 1)) := by
  rw [drop_at hg, okFrom, h]; rfl

set_option maxHeartbeats 4000000 in
set_option maxRecDepth 8000 in
theorem br_mayRows (w : World) (vl vg vp : Value) (Ll Lg : List PzV) (Lp : List PaV) (hl : PzsAt w vl Ll) (hg : PzsAt w vg Lg) (hp : PasAt w vp Lp) (hat : ∀ x ∈ Lp, x.at_ < 2 ^ 64) (hnl : Ll.length ≤ 100000) (hng : Lg.length ≤ 100000) (hnp : Lp.length ≤ 100000) (hcl : (cellsZ (Ll.map PzV.m)).length ≤ 1000000) (hcg : (cellsZ (Lg.map PzV.m)).length ≤ 1000000) :
    Calls Try.prog 21 #[.agg #[vl, vg, vp]] w fun e w' => e = .returned (.bool (mayRowsR (rzV Ll Lg Lp))) ∧ Below w.heap.size w w' := by
  have hyL := hid (fun W (hb : Below w.heap.size w W) => br_cells W _ Ll (hl.below hb) hnl hcl)
  have hyG := hid (fun W (hb : Below w.heap.size w W) => br_cells W _ Lg (hg.below hb) hng hcg)
  obtain ⟨p1, p2, rfl⟩ := RowsAt.form hl.rows
  obtain ⟨p3, p4, rfl⟩ := RowsAt.form hg.rows
  obtain ⟨p5, p6, rfl⟩ := RowsAt.form hp.rows
  obtain ⟨nl, ehl⟩ : ∃ n, n = Ll.length := ⟨_, rfl⟩
  obtain ⟨ng, ehg⟩ : ∃ n, n = Lg.length := ⟨_, rfl⟩
  obtain ⟨N, ehp⟩ : ∃ n, n = Lp.length := ⟨_, rfl⟩
  rw [← ehl] at hyL hl ⊢
  rw [← ehg] at hyG hg ⊢
  rw [← ehp] at hp hnp ⊢
  obtain ⟨R, hR⟩ : ∃ R, R = mayRowsR (rzV Ll Lg Lp) := ⟨_, rfl⟩
  rw [← hR]
  have HR := hid hR
  have H := hid (And.intro hl (And.intro hg (And.intro hp (And.intro hat (And.intro hnp ehp)))))
  have HC := hid (And.intro hcl hcg)
  clear hl hg hp hnl hng hnp hat ehl ehg ehp hR hcl hcg
  go_enter Try.func21, Try.ntmps21
  go_upto_region 1 with fail
  obtain ⟨V, hV⟩ : ∃ V, V = w.alloc (.cells #[.slice p1 nl p2, .slice p3 ng p4, .slice p5 N p6] 28) := ⟨_, rfl⟩
  have bV : Below w.heap.size w V := by rw [hV]; exact (Below.refl _ _).alloc (Nat.le_refl _) _
  have rV : RowAt V w.heap.size 28 #[.slice p1 nl p2, .slice p3 ng p4, .slice p5 N p6] := by rw [hV]; exact heap_alloc_new w _
  rw [← hV]
  clear hV
  have z0 : V.cell? ⟨w.heap.size, 0, none⟩ = some (.slice p1 nl p2) := rV.cell 0
  have HV := hid (And.intro bV rV)
  clear bV rV
  go_wp2_with fail
  refine (hyL.out V HV.out.1).mono ?_
  intro e w1 h1
  obtain ⟨q1, n1, q2, rfl, hb1, hr1⟩ := h1.get
  have bw1 := HV.out.1.trans (hb1.mono HV.out.1.size)
  have rw1 := RowAt.below HV.out.2 hb1
  have z1 : w1.cell? ⟨w.heap.size, 1, none⟩ = some (.slice p3 ng p4) := rw1.cell 1
  have H1 := hid (And.intro bw1 (And.intro rw1 hr1))
  obtain ⟨ml, hml⟩ : ∃ b, b = mayZ (Ll.map PzV.m) := ⟨_, rfl⟩
  rw [← hml]
  have HML := hid hml
  clear h1 hb1 bw1 rw1 hr1 z0 hml
  go_wp2_with fail
  refine (hyG.out w1 H1.out.1).mono ?_
  intro e w2 h2
  obtain ⟨q3, n2, q4, rfl, hb2, hr2⟩ := h2.get
  have bw2 := H1.out.1.trans (hb2.mono H1.out.1.size)
  have rw2 := RowAt.below H1.out.2.1 hb2
  have hr1 := fun hm => (And.intro ((H1.out.2.2 hm).1.below hb2) (H1.out.2.2 hm).2)
  obtain ⟨mg, hmg⟩ : ∃ b, b = mayZ (Lg.map PzV.m) := ⟨_, rfl⟩
  rw [← hmg]
  have HMG := hid hmg
  have H2 := hid (And.intro bw2 (And.intro rw2 (And.intro hr1 hr2)))
  clear h2 hb2 bw2 rw2 hr1 hr2 z1 hmg
  cases ml with
  | false =>
    have hRf : R = false := by rw [HR.out]; unfold mayRowsR rzV; dsimp only; rw [← HML.out]; rfl
    subst hRf
    go_wp2_with fail
    go_ret
    exact ⟨rfl, H2.out.1⟩
  | true =>
    cases mg with
    | false =>
      have hRf : R = false := by rw [HR.out]; unfold mayRowsR rzV; dsimp only; rw [← HMG.out, Bool.and_false]; rfl
      subst hRf
      go_wp2_with fail
      go_ret
      exact ⟨rfl, H2.out.1⟩
    | true =>
      have hRR : R = okFrom (cellsZ (Ll.map PzV.m)) (cellsZ (Lg.map PzV.m)) 0 (Lp.map PaV.m) := by rw [HR.out]; unfold mayRowsR rzV; dsimp only; rw [← HML.out, ← HMG.out]; rfl
      have hr1 := H2.out.2.2.1 HML.out.symm
      have hr2 := H2.out.2.2.2 HMG.out.symm
      have hoL := okC_of HML.out.symm
      have hoG := okC_of HMG.out.symm
      have H3 := hid (And.intro hRR (And.intro hr1.1 (And.intro hr2.1 (And.intro hoL hoG))))
      clear hRR hr1 hr2 hoL hoG
      go_wp2_with fail
      go_loopw [7, 8, 9, 10] (fun vi v8 v9 v10 wr => ∃ (k last : Nat), k ≤ N ∧ vi = .int .i64 (k : Int) ∧ Below w2.heap.size w2 wr ∧ (k = 0 → last = 0) ∧ (∀ g, 0 < k → (Lp.map PaV.m)[k - 1]? = some g → last = g.at_ + g.old.length ∧ last ≤ MAXA) ∧ okFrom (cellsZ (Ll.map PzV.m)) (cellsZ (Lg.map PzV.m)) last ((Lp.map PaV.m).drop k) = R) (fun vi _ _ _ _ => N - (intOf vi).toNat)
      case atStart =>
        exact ⟨0, 0, Nat.zero_le _, rfl, Below.refl _ _, fun _ => rfl, fun g h => absurd h (Nat.lt_irrefl _), H3.out.1.symm⟩
      case round =>
        obtain ⟨k, last, hk, rfl, hb, hl0, hl1, hok⟩ := hrel
        have rwr := RowAt.below H2.out.2.1 hb
        have z2 : wr.cell? ⟨w.heap.size, 2, none⟩ = some (.slice p5 N p6) := rwr.cell 2
        by_cases hlt : k < N
        · obtain ⟨x, hx⟩ : ∃ x, Lp[k]? = some x := ⟨_, List.getElem?_eq_getElem (by have := H.out.2.2.2.2.2; omega)⟩
          have hpw := H.out.2.2.1.below (H2.out.1.trans (hb.mono H2.out.1.size))
          obtain ⟨g, off, rfl, y0, y1, y2⟩ := hpw.cell hx
          have hg : (Lp.map PaV.m)[k]? = some x.m := by rw [List.getElem?_map, hx]; rfl
          have hxa := H.out.2.2.2.1 x (List.mem_of_getElem? hx)
          have hs1 : x.old.length ≤ 140737488355328 := by obtain ⟨_, _, _, _, h2, _⟩ := hpw.b1 x (List.mem_of_getElem? hx); exact h2.2
          have hltz : decide ((k : Int) < (N : Int)) = true := by rw [decide_eq_true_eq]; omega
          have hltn : decide (k < N) = true := by rw [decide_eq_true_eq]; omega
          have i1 : (0 : Int) ≤ (k : Int) := by omega
          have i2 : (k : Int) < (N : Int) := by omega
          obtain ⟨xa, xp1, xc1, xo, xp2, xc2, xn⟩ := x
          dsimp only [PaV.s1, PaV.s2] at y0 y1 y2 hxa hs1
          obtain ⟨no, hno⟩ : ∃ n, n = xo.length := ⟨_, rfl⟩
          obtain ⟨nn, hnn⟩ : ∃ n, n = xn.length := ⟨_, rfl⟩
          rw [← hno] at y1 hs1
          rw [← hnn] at y2
          have hwn : IntKind.u64.wrap (no : Int) = (no : Int) := IntWalk.u64_in _ (by omega)
          have HX := hid (And.intro hb (And.intro hl0 (And.intro hl1 (And.intro hok (And.intro hg (And.intro hno (And.intro hnn (And.intro hxa hs1))))))))
          have HR2 := hid (And.intro rwr hpw)
          have Hk := hid (And.intro hlt hx)
          clear hb hl0 hl1 hok hg hno hnn hxa hs1 rwr hpw hlt hk hx
          go_upto_region 9 with fail
          obtain ⟨V8, hV8⟩ : ∃ V, V = wr.alloc (.cells #[.int .u64 (xa : Int), .slice xp1 no xc1, .slice xp2 nn xc2] 54) := ⟨_, rfl⟩
          have b8 : Below wr.heap.size wr V8 := by rw [hV8]; exact (Below.refl _ _).alloc (Nat.le_refl _) _
          have r8 : RowAt V8 wr.heap.size 54 #[.int .u64 (xa : Int), .slice xp1 no xc1, .slice xp2 nn xc2] := by rw [hV8]; exact heap_alloc_new wr _
          rw [← hV8]
          have x0 : V8.cell? ⟨wr.heap.size, 0, none⟩ = some (.int .u64 (xa : Int)) := r8.cell 0
          have x1 : V8.cell? ⟨wr.heap.size, 1, none⟩ = some (.slice xp1 no xc1) := r8.cell 1
          have x2 : V8.cell? ⟨wr.heap.size, 2, none⟩ = some (.slice xp2 nn xc2) := r8.cell 2
          have rw8 := RowAt.below HR2.out.1 b8
          have z8 : V8.cell? ⟨w.heap.size, 2, none⟩ = some (.slice (some ⟨g, off, none⟩) N p6) := rw8.cell 2
          have bw8 : Below w.heap.size w V8 := H2.out.1.trans ((HX.out.1.trans (b8.mono HX.out.1.size)).mono H2.out.1.size)
          have H8 := hid (And.intro b8 (And.intro r8 (And.intro rw8 bw8)))
          have hfail : okPatch (cellsZ (Ll.map PzV.m)) (cellsZ (Lg.map PzV.m)) last (PaV.m ⟨xa, xp1, xc1, xo, xp2, xc2, xn⟩) = false → R = false := fun h => HX.out.2.2.2.1.symm.trans (okFrom_fail HX.out.2.2.2.2.1 h)
          have HF := hid hfail
          clear hV8 b8 r8 rw8 bw8 hfail y0 y1 y2 z2
          have hm1 : PaV.m ⟨xa, xp1, xc1, xo, xp2, xc2, xn⟩ = (⟨xa, xo, xn⟩ : Gz) := rfl
          have HM := hid hm1
          clear hm1
          have hno := HX.out.2.2.2.2.2.1
          have hnn := HX.out.2.2.2.2.2.2.1
          have hs1 := HX.out.2.2.2.2.2.2.2.2
          by_cases c0 : no = 0
          · have hRf : R = false := HF.out (by rw [HM.out]; unfold okPatch; dsimp only; rw [← hno, c0]; rfl)
            subst hRf
            have e0 : ((no : Int) == 0) = true := by rw [c0]; rfl
            clear c0 hno hnn hs1
            go_wp2_with fail
            go_ret
            exact ⟨rfl, H8.out.2.2.2⟩
          have e0 : ((no : Int) == 0) = false := by simp only [beq_eq_false_iff_ne]; omega
          by_cases c1 : ¬ nn = no
          · have hRf : R = false := HF.out (by rw [HM.out]; unfold okPatch; dsimp only; rw [← hno, ← hnn, decide_eq_false c1, Bool.and_false]; rfl)
            subst hRf
            have e1 : ((nn : Int) != (no : Int)) = true := by simp only [bne_iff_ne]; omega
            have Hc := hid (And.intro c0 c1)
            clear c0 c1 hno hnn hs1
            go_wp2_with fail
            go_ret
            exact ⟨rfl, H8.out.2.2.2⟩
          have c1 : nn = no := Decidable.not_not.1 c1
          have e1 : ((nn : Int) != (no : Int)) = false := by rw [c1]; simp
          by_cases c2 : ¬ xa ≤ MAXA
          · have hRf : R = false := HF.out (by rw [HM.out]; unfold okPatch; dsimp only; rw [decide_eq_false c2]; simp)
            subst hRf
            have e2 : decide ((140737488355328 : Int) < (xa : Int)) = true := by rw [decide_eq_true_eq]; unfold MAXA at c2; omega
            have Hc := hid (And.intro c0 (And.intro c1 c2))
            clear c0 c1 c2 hno hnn hs1
            go_wp2_with fail
            go_ret
            exact ⟨rfl, H8.out.2.2.2⟩
          have c2 : xa ≤ MAXA := Decidable.not_not.1 c2
          have e2 : decide ((140737488355328 : Int) < (xa : Int)) = false := by rw [decide_eq_false_iff_not]; unfold MAXA at c2; omega
          obtain ⟨left, hleft⟩ : ∃ l, l = MAXA - xa := ⟨_, rfl⟩
          have e3w : IntKind.u64.wrap (140737488355328 - (xa : Int)) = (left : Int) := (IntWalk.u64_in _ (by unfold MAXA at c2; omega)).trans (by unfold MAXA at c2 hleft; omega)
          by_cases c3 : ¬ no ≤ left
          · have hRf : R = false := HF.out (by rw [HM.out]; unfold okPatch; dsimp only; rw [← hno, decide_eq_false (show ¬ xa + no ≤ MAXA by omega)]; simp)
            subst hRf
            have e3 : decide ((left : Int) < (no : Int)) = true := by rw [decide_eq_true_eq]; omega
            have e3n : decide (left < no) = true := by rw [decide_eq_true_eq]; omega
            have Hc := hid (And.intro c0 (And.intro c1 (And.intro c2 (And.intro c3 hleft))))
            clear c0 c1 c2 c3 hleft hno hnn hs1
            go_wp2_with fail
            go_ret
            exact ⟨rfl, H8.out.2.2.2⟩
          have c3 : no ≤ left := Decidable.not_not.1 c3
          have e3 : decide ((left : Int) < (no : Int)) = false := by rw [decide_eq_false_iff_not]; omega
          have e3n : decide (left < no) = false := by rw [decide_eq_false_iff_not]; omega
          have Hc := hid (And.intro c0 (And.intro c1 (And.intro c2 (And.intro c3 hleft))))
          clear c0 c1 c2 c3 hleft hno hnn hs1
          go_wp2_with fail
          go_cut [91] (fun t91 wx => t91 = .bool (decide (xa < last)) ∧ Below V8.heap.size V8 wx)
          case first =>
            clear e0 e1 e2 e3 e3n e3w
            by_cases hk0 : k = 0
            · subst hk0
              have hl := HX.out.2.1 rfl
              have e4 : decide ((0 : Int) < ((0 : Nat) : Int)) = false := by rfl
              have hd : decide (xa < last) = false := by rw [decide_eq_false_iff_not]; omega
              have HD := hid hd
              clear hl hd i1 i2 hltz hltn
              go_quiet (fail)
              go_wp2_with fail
              go_meet
              exact ⟨by rw [HD.out], below_drewNP (Below.refl _ _) _⟩
            · obtain ⟨j, hj⟩ : ∃ j, k = j + 1 := ⟨k - 1, by omega⟩
              obtain ⟨y, hy⟩ : ∃ y, Lp[j]? = some y := ⟨_, List.getElem?_eq_getElem (by have := H.out.2.2.2.2.2; have := Hk.out.1; omega)⟩
              have hyg : (Lp.map PaV.m)[k - 1]? = some y.m := by rw [hj, Nat.add_sub_cancel, List.getElem?_map, hy]; rfl
              obtain ⟨hlz, hlm⟩ := HX.out.2.2.1 y.m (by omega) hyg
              obtain ⟨g', off', e', t0, t1, -⟩ := (H.out.2.2.1.below H8.out.2.2.2).cell hy
              cases e'
              obtain ⟨ya, yp1, yc1, yo, yp2, yc2, yn⟩ := y
              have hl : last = ya + yo.length := hlz
              clear hlz
              obtain ⟨ny, hny⟩ : ∃ n, n = yo.length := ⟨_, rfl⟩
              dsimp only [PaV.s1] at t0 t1
              rw [← hny] at t1 hl
              unfold MAXA at hlm
              have e4 : decide ((0 : Int) < (k : Int)) = true := by rw [decide_eq_true_eq]; omega
              have e4n : decide (0 < k) = true := by rw [decide_eq_true_eq]; omega
              have e5 : IntKind.i64.wrap ((k : Int) - 1) = (j : Int) := (IntWalk.i64_in _ (by have := H.out.2.2.2.2.1; have := Hk.out.1; omega)).trans (by omega)
              have e6 : IntKind.u64.wrap (ny : Int) = (ny : Int) := IntWalk.u64_in _ (by omega)
              have e7 : IntKind.u64.wrap ((ya : Int) + (ny : Int)) = (last : Int) := (IntWalk.u64_in _ (by omega)).trans (by omega)
              have i3 : (0 : Int) ≤ (j : Int) := by omega
              have i4 : (j : Int) < (N : Int) := by omega
              have i5 : j < N := by omega
              have hd : decide ((xa : Int) < (last : Int)) = decide (xa < last) := by
                by_cases h : xa < last
                · rw [decide_eq_true h, decide_eq_true_eq]; omega
                · rw [decide_eq_false h, decide_eq_false_iff_not]; omega
              clear hj hk0 hl hlm hyg hy hny hd i1 i2 hltz hltn
              go_quiet (fail)
              go_wp2_with fail
              go_meet
              exact ⟨rfl, below_drewNP (Below.refl _ _) _⟩
          case rest =>
            obtain ⟨rfl, hbc⟩ := hcut
            clear x0 x1 x2 z8
            have hbl : Below w2.heap.size w2 wc := HX.out.1.trans ((H8.out.1.trans (hbc.mono H8.out.1.size)).mono HX.out.1.size)
            have bwc : Below w.heap.size w wc := H2.out.1.trans (hbl.mono H2.out.1.size)
            have rc := RowAt.below H8.out.2.1 hbc
            have HC8 := hid (And.intro hbl (And.intro bwc rc))
            by_cases hla : xa < last
            · have hRf : R = false := HF.out (by rw [HM.out]; unfold okPatch; dsimp only; rw [decide_eq_false (show ¬ last ≤ xa by omega)]; simp)
              subst hRf
              have hd : decide (xa < last) = true := decide_eq_true hla
              rw [hd]
              clear hd hla hbl bwc rc hbc
              go_wp2_with fail
              go_ret
              exact ⟨rfl, HC8.out.2.1⟩
            · have hd : decide (xa < last) = false := decide_eq_false hla
              rw [hd]
              have Hla := hid hla
              clear hd hla hbl bwc rc hbc
              obtain ⟨wo, hwo⟩ : ∃ W : World, W = wr := ⟨_, rfl⟩
              subst hwo
              go_wp2_with fail
              go_loopw [10] (fun vj wi => ∃ j : Nat, j ≤ no ∧ vj = .int .u64 (j : Int) ∧ Below wc.heap.size wc wi ∧ (∀ t, t < j → ∀ c ∈ cellsZ (Ll.map PzV.m), c.at_ ≠ xa + t) ∧ (∀ t, t < j → ∀ c ∈ cellsZ (Lg.map PzV.m), c.at_ ≠ xa + t)) (fun vj _ => no - (intOf vj).toNat)
              case atStart => exact ⟨0, Nat.zero_le _, rfl, Below.refl _ _, fun t h => absurd h (Nat.not_lt_zero _), fun t h => absurd h (Nat.not_lt_zero _)⟩
              case round =>
                obtain ⟨j, hj, rfl, hbi, ha, hgn⟩ := hrel
                have hbw := HC8.out.1.trans (hbi.mono HC8.out.1.size)
                have hrl := H3.out.2.1.below hbw
                have hrg := H3.out.2.2.1.below hbw
                have rci := RowAt.below HC8.out.2.2 hbi
                have x0 : wr.cell? ⟨wo.heap.size, 0, none⟩ = some (.int .u64 (xa : Int)) := rci.cell 0
                have hx60 : xa + no ≤ 140737488355328 := by have h1 := Hc.out.2.2.1; have h2 := Hc.out.2.2.2.1; have h3 := Hc.out.2.2.2.2; unfold MAXA at h1 h3; omega
                by_cases hjl : j < no
                · have e4 : decide ((j : Int) < (no : Int)) = true := by rw [decide_eq_true_eq]; omega
                  have e4n : decide (j < no) = true := by rw [decide_eq_true_eq]; omega
                  have e5 : IntKind.u64.wrap ((xa : Int) + (j : Int)) = ((xa + j : Nat) : Int) := (IntWalk.u64_in _ (by omega)).trans (by omega)
                  have e6 : IntKind.u64.wrap ((j : Int) + 1) = ((j + 1 : Nat) : Int) := (IntWalk.u64_in _ (by omega)).trans (by omega)
                  obtain ⟨A, hA⟩ : ∃ A, A = xa + j := ⟨_, rfl⟩
                  rw [← hA] at e5
                  have lt64 : ∀ {C : List Cz}, OkC C → ∀ c ∈ C, c.at_ < 2 ^ 64 := fun h c hc => by have := (h.ok c hc).1; unfold MAXA at this; omega
                  have hf1 := br_find wr _ (cellsZ (Ll.map PzV.m)) A hrl H3.out.2.2.2.1.up (by omega) (lt64 H3.out.2.2.2.1) HC.out.1
                  have hf2 := fun (W : World) (hb : Below wr.heap.size wr W) => br_find W _ (cellsZ (Lg.map PzV.m)) A (hrg.below hb) H3.out.2.2.2.2.up (by omega) (lt64 H3.out.2.2.2.2) HC.out.2
                  have HI := hid (And.intro hbi (And.intro ha (And.intro hgn (And.intro hjl (And.intro hA (And.intro rci hx60))))))
                  have HF1 := hid hf1
                  have HF2 := hid hf2
                  clear hj hbi ha hgn hbw hrl hrg rci hx60 hjl hA lt64 hf1 hf2
                  go_wp2_with fail
                  refine HF1.out.mono ?_
                  rintro e wf ⟨z, rfl, hbf, hz⟩
                  have rcf := RowAt.below HI.out.2.2.2.2.2.1 hbf
                  have x0f : wf.cell? ⟨wo.heap.size, 0, none⟩ = some (.int .u64 (xa : Int)) := rcf.cell 0
                  have HZ := hid hz
                  have HBF := hid (And.intro hbf rcf)
                  clear hz rcf hbf x0
                  rcases HZ.out with ⟨kk, c, hc, hca, hzz⟩ | ⟨hzz, hnone⟩
                  · have hz0 : decide ((0 : Int) ≤ z) = true := by rw [decide_eq_true_eq]; omega
                    have hRf : R = false := HF.out (by
                      rw [HM.out]; unfold okPatch; dsimp only
                      rw [meet_some (k := j) (by rw [← HX.out.2.2.2.2.2.1]; exact HI.out.2.2.2.1) (List.mem_of_getElem? hc) (hca.trans HI.out.2.2.2.2.1)]
                      simp)
                    subst hRf
                    clear hc hca hzz
                    go_wp2_with fail
                    go_ret
                    exact ⟨rfl, HC8.out.2.1.trans ((HI.out.1.trans (HBF.out.1.mono HI.out.1.size)).mono HC8.out.2.1.size)⟩
                  · subst hzz
                    have Hn := hid hnone
                    clear hnone
                    go_wp2_with fail
                    refine (HF2.out wf HBF.out.1).mono ?_
                    rintro e wg ⟨z, rfl, hbg, hz2⟩
                    have HZ2 := hid hz2
                    have HBG := hid hbg
                    clear hz2 hbg
                    have hbgg := HI.out.1.trans ((HBF.out.1.trans (HBG.out.mono HBF.out.1.size)).mono HI.out.1.size)
                    have HBB := hid hbgg
                    clear hbgg
                    rcases HZ2.out with ⟨kk, c, hc, hca, hzz⟩ | ⟨hzz, hnone⟩
                    · have hz0 : decide ((0 : Int) ≤ z) = true := by rw [decide_eq_true_eq]; omega
                      have hRf : R = false := HF.out (by
                        rw [HM.out]; unfold okPatch; dsimp only
                        rw [meet_some (C := cellsZ (Lg.map PzV.m)) (k := j) (by rw [← HX.out.2.2.2.2.2.1]; exact HI.out.2.2.2.1) (List.mem_of_getElem? hc) (hca.trans HI.out.2.2.2.2.1)]
                        simp)
                      subst hRf
                      clear hc hca hzz
                      go_wp2_with fail
                      go_ret
                      exact ⟨rfl, HC8.out.2.1.trans (HBB.out.mono HC8.out.2.1.size)⟩
                    · subst hzz
                      have Hn2 := hid hnone
                      clear hnone
                      go_wp2_with fail
                      refine ⟨⟨j + 1, by have := HI.out.2.2.2.1; omega, by go_num, HBB.out, fun t ht c hc => ?_, fun t ht c hc => ?_⟩, by simp only [intOf, Int.toNat_natCast]; have := HI.out.2.2.2.1; omega⟩
                      · rcases Nat.lt_or_eq_of_le (Nat.le_of_lt_succ ht) with h | h
                        · exact HI.out.2.1 t h c hc
                        · rw [h, ← HI.out.2.2.2.2.1]; exact Hn.out c hc
                      · rcases Nat.lt_or_eq_of_le (Nat.le_of_lt_succ ht) with h | h
                        · exact HI.out.2.2.1 t h c hc
                        · rw [h, ← HI.out.2.2.2.2.1]; exact Hn2.out c hc
                · have e4 : decide ((j : Int) < (no : Int)) = false := by rw [decide_eq_false_iff_not]; omega
                  have e4n : decide (j < no) = false := by rw [decide_eq_false_iff_not]; omega
                  have hjn : j = no := by omega
                  have hwk : IntKind.i64.wrap ((k : Int) + 1) = ((k + 1 : Nat) : Int) := (IntWalk.i64_in _ (by have := H.out.2.2.2.2.1; have := Hk.out.1; omega)).trans (by omega)
                  have hokp : okPatch (cellsZ (Ll.map PzV.m)) (cellsZ (Lg.map PzV.m)) last (PaV.m ⟨xa, xp1, xc1, xo, xp2, xc2, xn⟩) = true := by
                    have hno := HX.out.2.2.2.2.2.1
                    have hnn := HX.out.2.2.2.2.2.2.1
                    have h1 := Hc.out.1
                    have h2 := Hc.out.2.1
                    have h3 := Hc.out.2.2.1
                    have h4 := Hc.out.2.2.2.1
                    have h5 := Hc.out.2.2.2.2
                    have h6 := Hla.out
                    rw [HM.out]
                    unfold okPatch
                    dsimp only
                    rw [← hno, ← hnn, meet_none (fun t ht => ha t (by omega)), meet_none (fun t ht => hgn t (by omega)), decide_eq_true (show 0 < no by omega), decide_eq_true h2, decide_eq_true h3, decide_eq_true (show xa + no ≤ MAXA by omega), decide_eq_true (show last ≤ xa by omega)]
                    rfl
                  have hnx := okFrom_next HX.out.2.2.2.2.1 hokp
                  rw [HX.out.2.2.2.1] at hnx
                  have HN := hid (And.intro hnx (And.intro hbw hx60))
                  clear hj hbi ha hgn hbw hrl hrg rci hx60 hjl hjn hokp hnx x0
                  go_wp2_with fail
                  refine ⟨⟨k + 1, xa + no, by have := Hk.out.1; omega, by go_num, HN.out.2.1, fun h => absurd h (Nat.succ_ne_zero _), fun g _ hgk => ?_, ?_⟩, by simp only [intOf, Int.toNat_natCast]; have := Hk.out.1; omega⟩
                  · rw [Nat.add_sub_cancel, HX.out.2.2.2.2.1] at hgk
                    cases hgk
                    exact ⟨by rw [HX.out.2.2.2.2.2.1]; rfl, by have := HN.out.2.2; unfold MAXA; omega⟩
                  · rw [HN.out.1, HX.out.2.2.2.2.2.1]; rfl
        · have hkN : k = N := by omega
          have hltz : decide ((k : Int) < (N : Int)) = false := by rw [decide_eq_false_iff_not]; omega
          have hltn : decide (k < N) = false := by rw [decide_eq_false_iff_not]; omega
          have hRt : R = true := by
            rw [← hok, List.drop_eq_nil_of_le (by rw [List.length_map]; have := H.out.2.2.2.2.2; omega)]; rfl
          subst hRt
          have bwr : Below w.heap.size w wr := H2.out.1.trans (hb.mono H2.out.1.size)
          have HB := hid bwr
          clear hkN hb hl0 hl1 hok rwr hlt hk bwr
          go_wp2_with fail
          go_ret
          exact ⟨rfl, HB.out⟩
end Go.Proofs.Ythlnjfnjmjdohaa

namespace Go.Proofs.Ythlnjfnjmjdohaa
set_option linter.unusedSimpArgs false
set_option linter.unusedVariables false
open Go.RowKit

def boolsV (l : List Bool) : List Value := l.map .bool
theorem made_bool (v : Value) (n : Nat) : madeCells #[v] n = (List.replicate n v).toArray := by
  apply Array.ext
  · simp [madeCells]
  · intro i h1 h2
    simp [madeCells, Nat.mod_one]
theorem un_bools : Try.prog.underlying 68 = some (.slice 4) := by kernel_rfl
theorem infoBool : (Try.prog.info? 4).map (fun i => (i.zero, i.size, i.bytes)) = some (some (.bool false), 1, 1) := by kernel_rfl
theorem make_bools (w : World) (n : Nat) (hn : n ≤ 100000) : (Instr.makeSlice 68 (.int .i64 (n : Int)) (.int .i64 (n : Int))).run Try.prog w = .ok (.slice (some ⟨w.heap.size, 0, none⟩) n n) (w.alloc (.cells (boolsV (List.replicate n false)).toArray 4)) := by
  obtain ⟨i0, hi, hz0, hz1, hz2⟩ := info_parts infoBool
  have := run_makeSlice (P := Try.prog) (w := w) 68 4 i0 (.bool false) un_bools hi hz0 .i64 .i64 n n (by omega) (by omega) (by rw [hz1]; simp; omega) (by rw [hz2]; simp; omega) (by omega)
  rw [hz1] at this
  have e : boolsV (List.replicate n false) = List.replicate n (.bool false) := by simp [boolsV]
  rw [e, ← made_bool]
  simp only [Int.toNat_natCast, Nat.mul_one] at this
  exact this
theorem bools_set (l : List Bool) (k : Nat) (b : Bool) : (boolsV l).toArray.setIfInBounds k (.bool b) = (boolsV (l.set k b)).toArray := by
  unfold boolsV
  rw [List.setIfInBounds_toArray, List.map_set]

theorem flat_set {α : Type} {cs : α → List Value} (hc : ∀ x, (cs x).length = 3) {x' : α} {c : Nat} {u : Value} (hcc : c < 3) : ∀ (L : List α) (k : Nat) (x : α), L[k]? = some x → cs x' = (cs x).set c u → (L.flatMap cs).set (k * 3 + c) u = (L.set k x').flatMap cs
  | [], k, x, h, _ => by simp at h
  | a :: L, 0, x, h, hu => by
    simp at h; subst h
    rw [List.flatMap_cons, Nat.zero_mul, Nat.zero_add, List.set_append_left _ _ (by rw [hc]; exact hcc), ← hu, List.set_cons_zero, List.flatMap_cons]
  | a :: L, k + 1, x, h, hu => by
    rw [List.flatMap_cons, List.set_append_right _ _ (by rw [hc]; omega), hc, show (k + 1) * 3 + c - 3 = k * 3 + c by omega, flat_set hc hcc L k x (by simpa using h) hu, List.set_cons_succ, List.flatMap_cons]
theorem own3_setk {α : Type} {cs : α → List Value} (hc : ∀ x, (cs x).length = 3) {W : World} {B : Nat} {g cap n : Nat} {L : List α} {x x' : α} {k c : Nat} {e : TypeId} {u : Value} (hk : L[k]? = some x) (hcc : c < 3) (hu : cs x' = (cs x).set c u)
    (h : W.ownsRow B e 3 (.slice (some ⟨g, 0, none⟩) n cap) L.length (L.flatMap cs)) : (W.setCell ⟨g, k * 3 + c, none⟩ u).ownsRow B e 3 (.slice (some ⟨g, 0, none⟩) n cap) (L.set k x').length ((L.set k x').flatMap cs) := by
  obtain ⟨k1, ⟨k2, _⟩ | ⟨g', cap', cur, k2, k3, k4, k5, k6, k7, k8⟩⟩ := h
  · cases k2
  · cases k2
    have hl : (L.set k x').length = L.length := List.length_set
    rw [hl]
    refine ⟨by rw [flat3g hc, hl], .inr ⟨g, cap, cur.setIfInBounds (k * 3 + c) u, rfl, k3, heap_setCell_same W g _ cur _ _ k4, k5, k6, by simpa using k7, ?_⟩⟩
    rw [Array.toList_setIfInBounds, List.take_set, k8, flat_set hc hcc L k x hk hu]

/-- What stands while the document lays rows. -/
structure LayR (w : World) (rows : Array Value) (gB : Nat) (v6 v10 : Value) (C G : List Cz) (fl : List Bool) (W : World) : Prop where
  bel : Below w.heap.size w W
  box : RowAt W w.heap.size 28 rows
  cells : W.ownsRow (w.heap.size + 1) 63 3 v6 C.length (C.flatMap czC)
  gain : W.ownsRow (w.heap.size + 1) 63 3 v10 G.length (G.flatMap czC)
  gone : RowAt W gB 4 (boolsV fl).toArray
  ap : ∀ k, v6.ownBlock = some k → v10.ownBlock ≠ some k ∧ k ≠ gB
  ap2 : ∀ k, v10.ownBlock = some k → k ≠ gB
  gb : w.heap.size < gB
section
variable {w W W' : World} {rows : Array Value} {gB : Nat} {v6 v10 : Value} {C G : List Cz} {fl : List Bool}
theorem LayR.below (h : LayR w rows gB v6 v10 C G fl W) (hb : Below W.heap.size W W') : LayR w rows gB v6 v10 C G fl W' :=
  ⟨h.bel.trans (hb.mono h.bel.size), RowAt.below h.box hb, ownsRow_below h.cells hb, ownsRow_below h.gain hb, RowAt.below h.gone hb, h.ap, h.ap2, h.gb⟩
theorem LayR.size (h : LayR w rows gB v6 v10 C G fl W) : w.heap.size < W.heap.size := h.box.lt
theorem LayR.mark (h : LayR w rows gB v6 v10 C G fl W) (k : Nat) : LayR w rows gB v6 v10 C G (fl.set k true) (W.setCell ⟨gB, k, none⟩ (.bool true)) := by
  have set : ∀ j, j ≠ gB → (W.setCell ⟨gB, k, none⟩ (.bool true)).heap[j]? = W.heap[j]? := fun j hj => heap_setCell_other _ _ _ _ hj
  have hg := h.gb
  refine ⟨⟨h.bel.os, h.bel.tape, h.bel.output, by simp [World.setCell]; exact h.bel.size, fun j hj => (set j (by omega)).trans (h.bel.block j hj)⟩, (set _ (by omega)).trans h.box, owns_of_block h.cells (fun j hj => set j (h.ap j hj).2), owns_of_block h.gain (fun j hj => set j (h.ap2 j hj)), ?_, h.ap, h.ap2, h.gb⟩
  have := h.gone.same (i := k) (.bool true)
  rw [bools_set] at this
  exact this
theorem LayR.byte {g n cap k : Nat} {c : Cz} {b : UInt8} (h : LayR w rows gB (.slice (some ⟨g, 0, none⟩) n cap) v10 C G fl W) (hk : C[k]? = some c) : LayR w rows gB (.slice (some ⟨g, 0, none⟩) n cap) v10 (C.set k ⟨c.at_, c.prot, b⟩) G fl (W.setCell ⟨g, k * 3 + 2, none⟩ (.int .u8 (b.toNat : Int))) := by
  have hge := (World.ownsRow.lt h.cells g rfl).1
  have set : ∀ j, j ≠ g → (W.setCell ⟨g, k * 3 + 2, none⟩ (.int .u8 (b.toNat : Int))).heap[j]? = W.heap[j]? := fun j hj => heap_setCell_other _ _ _ _ hj
  exact ⟨⟨h.bel.os, h.bel.tape, h.bel.output, by simp [World.setCell]; exact h.bel.size, fun j hj => (set j (by omega)).trans (h.bel.block j hj)⟩, (set _ (by omega)).trans h.box, own3_setk czLen hk (by decide) rfl h.cells,
    owns_of_block h.gain (fun j hj => set j (fun e => (h.ap g rfl).1 (by rw [← e]; exact hj))), (set gB (fun e => (h.ap g rfl).2 e.symm)).trans h.gone, h.ap, h.ap2, h.gb⟩
/-- Where a byte's cells lie. -/
theorem LayR.cell {p : Option Addr} {n cap i : Nat} {c : Cz} (h : LayR w rows gB (.slice p n cap) v10 C G fl W) (hi : C[i]? = some c) : ∃ g, p = some ⟨g, 0, none⟩ ∧ W.cell? ⟨g, i * 3, none⟩ = some (.int .u64 (c.at_ : Int)) ∧ W.cell? ⟨g, i * 3 + 1, none⟩ = some (.int .i64 c.prot) ∧ W.cell? ⟨g, i * 3 + 2, none⟩ = some (.int .u8 (c.b.toNat : Int)) ∧ W.frozen? ⟨g, i * 3 + 2, none⟩ = false := by
  obtain ⟨g, cap', cur, e, hc, hu⟩ := own3_rows czLen h.cells hi
  cases e
  refine ⟨g, rfl, ?_, ?_, ?_, frozen_of_row W g _ _ _ hc⟩
  · simp only [World.cell?, hc]; simpa using hu 0 _ rfl
  · simp only [World.cell?, hc]; exact hu 1 _ rfl
  · simp only [World.cell?, hc]; exact hu 2 _ rfl
theorem LayR.gcell {p : Option Addr} {n cap i : Nat} {c : Cz} (h : LayR w rows gB v6 (.slice p n cap) C G fl W) (hi : G[i]? = some c) : ∃ g, p = some ⟨g, 0, none⟩ ∧ W.cell? ⟨g, i * 3, none⟩ = some (.int .u64 (c.at_ : Int)) ∧ W.cell? ⟨g, i * 3 + 1, none⟩ = some (.int .i64 c.prot) ∧ W.cell? ⟨g, i * 3 + 2, none⟩ = some (.int .u8 (c.b.toNat : Int)) := by
  obtain ⟨g, cap', cur, e, hc, hu⟩ := own3_rows czLen h.gain hi
  cases e
  refine ⟨g, rfl, ?_, ?_, ?_⟩
  · simp only [World.cell?, hc]; simpa using hu 0 _ rfl
  · simp only [World.cell?, hc]; exact hu 1 _ rfl
  · simp only [World.cell?, hc]; exact hu 2 _ rfl
theorem LayR.flag {i : Nat} {b : Bool} (h : LayR w rows gB v6 v10 C G fl W) (hi : fl[i]? = some b) : W.cell? ⟨gB, i, none⟩ = some (.bool b) ∧ W.frozen? ⟨gB, i, none⟩ = false := by
  have hb : W.heap[gB]? = some (.cells (boolsV fl).toArray 4 (0, 0)) := h.gone
  refine ⟨?_, frozen_of_row W gB i _ _ hb⟩
  simp only [World.cell?, hb]
  simp [boolsV, hi]
theorem LayR.rows6 (h : LayR w rows gB v6 v10 C G fl W) : RowsAt czC 3 W v6 C := own3_reads czLen h.cells
end
end Go.Proofs.Ythlnjfnjmjdohaa
