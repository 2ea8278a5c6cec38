/- The reference reads a node: the walk. -/
import Derived.Test.YtipgcdpmkpjokaaGreatDoorZRfG
namespace Go.Proofs.YtipgcdpmkpjokaaGreatDoor
set_option linter.unusedSimpArgs false
set_option linter.unusedVariables false
open Go.RowKit

/-- What stands behind what is said of a name. -/
def HeadR (w : World) (R X c : Nat) (p : Option Addr) (cap : Nat) (l : List UInt8) (at_ size k : Nat) (B : Nat) (wx : World) : Prop :=
  ∃ x, NS w wx R X c p cap l ⟨B, false⟩ x (decide (0 < size)) (.slice none 0 0) [] ∧ headM l at_ size k = some x

/-- What was said of a name. -/
def SaysR (w : World) (R X c : Nat) (p : Option Addr) (cap : Nat) (l : List UInt8) (A size : Nat) (v9 v10 : Value) (wx : World) : Prop :=
  ∃ x ok N, v9 = .pointer (some ⟨N, 0, none⟩) ∧ v10 = .bool ok ∧ NS w wx R X c p cap l ⟨A, false⟩ Exp.zero false (.slice none 0 0) [] ∧ RowAt wx N 28 x.cells.toArray ∧ c < N ∧
    ok = ((saysRf ((l.drop A).take size)).2.1 && (saysRf ((l.drop A).take size)).2.2.at_ == size) ∧ (ok = true → x = (saysRf ((l.drop A).take size)).1)

def KidsR (w : World) (R X c : Nat) (p : Option Addr) (cap : Nat) (l : List UInt8) (x : Exp) (e : Bool) (m : Nat) (res : Option (List KidM)) (i : Value) (wr : World) : Prop :=
  ∃ j acc s kv, j ≤ m ∧ i = .int .i64 (j : Int) ∧ acc.length ≤ j ∧ s.bad = false ∧ NS w wr R X c p cap l s x e kv acc ∧ (∀ k ∈ acc, k.edge ≠ []) ∧ res = restM l (m - j) s acc

/-- So many children begin with another byte. -/
def InnerR (W : World) (acc : List KidM) (b : UInt8) (i : Value) (wr : World) : Prop :=
  ∃ (j q : Nat), j ≤ acc.length ∧ i = .int .i64 (j : Int) ∧ wr = W.drewN q ∧ Aside ((acc.take j).any (fun x => x.edge.head? == some b) = false)

set_option maxHeartbeats 8000000 in
set_option maxRecDepth 4000 in
theorem ref_read (w : World) (p : Option Addr) (n cap : Nat) (l : List UInt8) (at_ : Nat) (h : BS w (.slice p n cap) l) (hat : at_ ≤ l.length) :
    Calls Tryz.prog 60 #[.slice p n cap, .int .i64 (at_ : Nat)] w (ReadRet w l at_) := by
  obtain rfl := h.len
  have hcp := h.cap
  have H0 := hid (And.intro h hat)
  have hN : NS w _ _ _ _ p cap l ⟨at_, false⟩ Exp.zero false (.slice none 0 0) [] := NS.start h hat
  have hB : NSB w p cap l := ⟨fun k hk => inBlk_lt h hk⟩
  obtain ⟨W1, hW1⟩ : ∃ W1, W1 = (((w.alloc (.cells nodeZ 105)).alloc (.cells nodeZ 105)).alloc (.cells #[.slice p l.length cap, .int .i64 (at_ : Nat), .bool false] 136)) := ⟨_, rfl⟩
  rw [← hW1] at hN
  have H1 := hid (And.intro hN hB)
  clear h hN hB hat
  go_enter Tryz.func60, Tryz.ntmps60
  go_wp2_with fail
  rw [← hW1]
  obtain ⟨R, hR⟩ : ∃ R, R = w.heap.size := ⟨_, rfl⟩
  rw [← hR] at H1 ⊢
  have HR := hid (And.intro hR hW1)
  clear hR hW1
  refine (ref_number W1 _ p cap l ⟨at_, false⟩ H1.out.1.cur).mono ?_
  rintro e w2 ⟨rfl, hc2, hg2⟩
  have h2 := H1.out.1.call hc2 hg2
  cases hu : ulebM (l.drop at_) with
  | none =>
    rw [numR_none hu] at h2 ⊢
    obtain ⟨⟨r0, r1, r2, r3, r4, r5, r6, r7, r8⟩, rf, z0, z1, z2, z3, z4, z5, z6, z7, z8⟩ := h2.zeros
    obtain ⟨d0, d1, d2, df⟩ := h2.curs
    have H2 := hid (And.intro h2 hu)
    clear h2 hc2 hg2 hu
    go_wp2_with fail
    refine bodyPost_ret (v := .tuple #[.agg nodeZ, .bool false]) (by simp [results, Tryz.results60, go_sem, r0, r1, r2, r3, r4, r5, r6, r7, r8]) rfl ?_
    exact ⟨_, false, rfl, H2.out.1.low, Exp.zero, false, .slice none 0 0, rfl, ⟨none, 0, 0, rfl⟩, by rw [readM_none H2.out.2]⟩
  | some q =>
    obtain ⟨size, k⟩ := q
    rw [numR_some hu] at h2 ⊢
    have hul := ulebM_lt hu
    rw [List.length_drop] at hul
    obtain ⟨A, hA⟩ : ∃ A, A = at_ + k := ⟨_, rfl⟩
    rw [← hA] at h2
    have hAl : A ≤ l.length := by have := H0.out.2; omega
    obtain ⟨lf, hlf⟩ : ∃ lf, lf = l.length - A := ⟨_, rfl⟩
    have hwl : IntKind.u64.wrap ((l.length : Int) - (A : Int)) = (lf : Int) := by rw [show (l.length : Int) - (A : Int) = (lf : Int) from by omega]; exact IntWalk.u64_in _ (by omega)
    obtain ⟨⟨r0, r1, r2, r3, r4, r5, r6, r7, r8⟩, rf, z0, z1, z2, z3, z4, z5, z6, z7, z8⟩ := h2.zeros
    obtain ⟨d0, d1, d2, df⟩ := h2.curs
    have H2 := hid (And.intro h2 hu)
    have HA := hid (And.intro hA hlf)
    have hs64 := hul.1
    clear h2 hc2 hg2 hu hA hlf hul
    dsimp only at d0 d1 d2 ⊢
    by_cases hbig : lf < size
    · have hd1 : decide ((lf : Int) < (size : Int)) = true := by simp; omega
      have hd2 : decide (lf < size) = true := by simp; omega
      have Hb := hid hbig
      clear hbig
      go_wp2_with fail
      refine bodyPost_ret (v := .tuple #[.agg nodeZ, .bool false]) (by simp [results, Tryz.results60, go_sem, r0, r1, r2, r3, r4, r5, r6, r7, r8]) rfl ?_
      exact ⟨_, false, rfl, H2.out.1.low, Exp.zero, false, .slice none 0 0, rfl, ⟨none, 0, 0, rfl⟩, by rw [readM_big H2.out.2 (by have h1 := HA.out.1; have h2 := HA.out.2; have h3 := Hb.out; omega)]⟩
    have hd1 : decide ((lf : Int) < (size : Int)) = false := by simp; omega
    have hd2 : decide (lf < size) = false := by simp; omega
    have Hb := hid hbig
    have hAs : A + size ≤ l.length := by have := HA.out.2; omega
    clear hbig r0 r1 r2 r3 r4 r5 r6 r7 r8 rf z0 z1 z2 z3 z4 z5 z6 z7 z8
    go_upto_if 40 with fail
    obtain ⟨B, hBe⟩ : ∃ B, B = A + size := ⟨_, rfl⟩
    have HB := hid hBe
    go_cut [] (fun wx => HeadR w R (R + 1) (R + 2) p cap l at_ size k B wx)
    case first =>
      cases hP : decide (0 < size) with
      | false =>
        have Hz := hid (show size = 0 by simpa using hP)
        have HP := hid hP
        clear hP
        go_wp2_with fail
        go_meet
        refine ⟨Exp.zero, ?_, by unfold headM; rw [if_pos Hz.out]⟩
        have h := H2.out.1
        rw [HP.out, HB.out, Hz.out]
        exact h
      | true =>
        have HP := hid hP
        have hsl : ∀ w : World, (Instr.slice 29 (.slice p l.length cap) (some (.int .i64 (A : Int))) (some (.int .i64 ((A : Int) + (size : Int)))) none).run Tryz.prog w = .ok (.slice (subA p A cap) size (cap - A)) w := fun w => by
          have := run_sub2 (P := Tryz.prog) (w := w) (t := 29) p l.length cap un_bs (sz_u8 w) .i64 .i64 (A : Int) ((A : Int) + (size : Int)) (by omega) (by omega) (by omega)
          rw [this]; congr 2; omega
        have hw1 : IntKind.i64.wrap (size : Int) = (size : Int) := IntWalk.i64_in _ (by omega)
        have hw2 : IntKind.i64.wrap ((A : Int) + (size : Int)) = (A : Int) + (size : Int) := IntWalk.i64_in _ (by omega)
        have hsub : BS w2 (.slice (subA p A cap) size (cap - A)) ((l.drop A).take size) := by
          have := sub_bs H2.out.1.cur.bs (lo := A) (hi := A + size) (m := cap) (by omega) (by omega) (by omega) (Nat.le_refl _)
          rwa [show A + size - A = size by omega] at this
        have hlen : ((l.drop A).take size).length = size := by rw [List.length_take, List.length_drop]; omega
        have hba : Below w2.heap.size w2 (w2.alloc (.cells Exp.zero.cells.toArray 28)) := (Below.refl _ _).alloc (Nat.le_refl _) _
        have hsay1 := ref_says w2.drew _ _ _ _ (hsub.heap (w' := w2.drew) rfl)
        have hsay2 : Calls Tryz.prog 83 #[.slice (subA p A cap) size (cap - A)] (w2.alloc (.cells #[.string ⟨#[]⟩, .int .i64 0, .bool false, .int .u64 0, .int .u64 0, .int .u64 0, .string ⟨#[]⟩] 28)).drew _ := ref_says (w2.alloc (.cells Exp.zero.cells.toArray 28)).drew _ _ _ _ ((hsub.below hba).heap (w' := (w2.alloc (.cells Exp.zero.cells.toArray 28)).drew) rfl)
        have hN2 : NS w (w2.alloc (.cells Exp.zero.cells.toArray 28)) R (R + 1) (R + 2) p cap l ⟨A, false⟩ Exp.zero false (.slice none 0 0) [] := H2.out.1.below hba
        have hY : RowAt (w2.alloc (.cells Exp.zero.cells.toArray 28)) w2.heap.size 28 Exp.zero.cells.toArray := heap_alloc_new w2 _
        have hclt : R + 2 < w2.heap.size := H2.out.1.cur.row.lt
        have Hsay := hid (And.intro hsay1 (And.intro hsay2 (And.intro hN2 (And.intro hY (And.intro hlen hclt)))))
        clear hsub hsay1 hsay2 hP hN2 hY hlen hba
        go_upto_region 7 with fail
        go_cut [9, 10] (fun v9 v10 wx => SaysR w R (R + 1) (R + 2) p cap l A size v9 v10 wx)
        case first =>
          go_region_with (first
            | (go_at_call 83; (with_reducible refine Hsay.out.1.mono ?_); rintro e w4 ⟨x, ok, rfl, hb4, hok, hx⟩; rw [show x.cells.toArray = #[.string (mkS x.name), .int .i64 x.kind, .bool x.weak, .int .u64 (x.value : Int), .int .u64 (x.resolver : Int), .int .u64 (x.ordinal : Int), .string (mkS x.other)] from rfl]; have Hk := hid (And.intro hb4 (And.intro hok hx)); clear hb4 hok hx)
            | (go_at_call 83; (with_reducible refine Hsay.out.2.1.mono ?_); rintro e w4 ⟨x, ok, rfl, hb4, hok, hx⟩; rw [show x.cells.toArray = #[.string (mkS x.name), .int .i64 x.kind, .bool x.weak, .int .u64 (x.value : Int), .int .u64 (x.resolver : Int), .int .u64 (x.ordinal : Int), .string (mkS x.other)] from rfl];
                have hY : RowAt w4 w2.heap.size 28 Exp.zero.cells.toArray := (hb4.block _ Hsay.out.2.2.2.1.lt).trans Hsay.out.2.2.2.1; obtain ⟨y0, y1, y2, y3, y4, y5, y6, yf⟩ := zeroE_cells hY; have Hk := hid (And.intro hb4 (And.intro hok hx)); have HY := hid hY; clear hb4 hok hx hY)
            | fail "no call")
          all_goals
            go_wp2_with fail
            go_meet
            first
            | exact ⟨x, ok, w4.heap.size, rfl, rfl, (((H2.out.1.heap (W' := w2.drew) rfl rfl rfl rfl).below Hk.out.1).below ((Below.refl _ _).alloc (Nat.le_refl _) _)), heap_alloc_new w4 _, ((H2.out.1.heap (W' := w2.drew) rfl rfl rfl rfl).below Hk.out.1).cur.row.lt, by rw [Hk.out.2.1, Hsay.out.2.2.2.2.1], Hk.out.2.2⟩
            | exact ⟨x, ok, w2.heap.size, rfl, rfl, ((Hsay.out.2.2.1.heap (W' := (w2.alloc (.cells Exp.zero.cells.toArray 28)).drew) rfl rfl rfl rfl).below Hk.out.1).farE hclt (fun e => by cases e) x, putE_row x HY.out, hclt, by rw [Hk.out.2.1, Hsay.out.2.2.2.2.1], Hk.out.2.2⟩
        case rest =>
          obtain ⟨x, ok, N, rfl, rfl, hS, hY, hN, hok, hx⟩ := hcut
          have hh := headM_ref (l := l) (at_ := at_) (size := size) (k := k) (by have := HP.out; simp at this; omega) (by have := HA.out.1; omega)
          rw [← HA.out.1, ← hok] at hh
          clear d0 d1 d2 df
          cases ok with
          | false =>
            rw [if_neg (by simp)] at hh
            obtain ⟨⟨r0, r1, r2, r3, r4, r5, r6, r7, r8⟩, rf, z0, z1, z2, z3, z4, z5, z6, z7, z8⟩ := hS.zeros
            have H3 := hid (And.intro hS hh)
            clear hS hY hN hok hx hh
            go_wp2_with fail
            refine bodyPost_ret (v := .tuple #[.agg nodeZ, .bool false]) (by simp [results, Tryz.results60, go_sem, r0, r1, r2, r3, r4, r5, r6, r7, r8]) rfl ?_
            exact ⟨_, false, rfl, H3.out.1.low, Exp.zero, false, .slice none 0 0, rfl, ⟨none, 0, 0, rfl⟩, by rw [readM_no H2.out.2 H3.out.2]⟩
          | true =>
            have y0 : wc.cell? ⟨N, 0, none⟩ = some (.string (mkS x.name)) := cell_of_row wc N 0 _ _ _ hY
            have y1 : wc.cell? ⟨N, 1, none⟩ = some (.int .i64 x.kind) := cell_of_row wc N 1 _ _ _ hY
            have y2 : wc.cell? ⟨N, 2, none⟩ = some (.bool x.weak) := cell_of_row wc N 2 _ _ _ hY
            have y3 : wc.cell? ⟨N, 3, none⟩ = some (.int .u64 (x.value : Int)) := cell_of_row wc N 3 _ _ _ hY
            have y4 : wc.cell? ⟨N, 4, none⟩ = some (.int .u64 (x.resolver : Int)) := cell_of_row wc N 4 _ _ _ hY
            have y5 : wc.cell? ⟨N, 5, none⟩ = some (.int .u64 (x.ordinal : Int)) := cell_of_row wc N 5 _ _ _ hY
            have y6 : wc.cell? ⟨N, 6, none⟩ = some (.string (mkS x.other)) := cell_of_row wc N 6 _ _ _ hY
            have n0 : wc.cell? ⟨R + 1, 0, none⟩ = some (.bool false) := cell_of_row wc (R + 1) 0 _ _ _ hS.row
            have n1 : wc.cell? ⟨R + 1, 1, none⟩ = some (.string ⟨#[]⟩) := cell_of_row wc (R + 1) 1 _ _ _ hS.row
            have n2 : wc.cell? ⟨R + 1, 2, none⟩ = some (.int .i64 0) := cell_of_row wc (R + 1) 2 _ _ _ hS.row
            have n3 : wc.cell? ⟨R + 1, 3, none⟩ = some (.bool false) := cell_of_row wc (R + 1) 3 _ _ _ hS.row
            have n4 : wc.cell? ⟨R + 1, 4, none⟩ = some (.int .u64 0) := cell_of_row wc (R + 1) 4 _ _ _ hS.row
            have n5 : wc.cell? ⟨R + 1, 5, none⟩ = some (.int .u64 0) := cell_of_row wc (R + 1) 5 _ _ _ hS.row
            have n6 : wc.cell? ⟨R + 1, 6, none⟩ = some (.int .u64 0) := cell_of_row wc (R + 1) 6 _ _ _ hS.row
            have n7 : wc.cell? ⟨R + 1, 7, none⟩ = some (.string ⟨#[]⟩) := cell_of_row wc (R + 1) 7 _ _ _ hS.row
            have nf : ∀ i, wc.frozen? ⟨R + 1, i, none⟩ = false := fun i => frozen_of_row wc (R + 1) i _ _ hS.row
            obtain ⟨d0, d1, d2, df⟩ := hS.curs
            dsimp only at d1 d2
            have hNR : N ≠ R + 1 := by omega
            rw [if_pos rfl, ← hx rfl] at hh
            have h4 := (hS.said H1.out.2 x).setAt (A + size) hAs
            rw [show ((A + size : Nat) : Int) = (A : Int) + (size : Int) from by omega] at h4
            have H3 := hid (And.intro hh h4)
            clear hS hY hN hok hx hh h4
            go_wp2_with fail
            go_meet
            refine ⟨x, ?_, H3.out.1⟩
            rw [HP.out, HB.out]
            exact H3.out.2
    case rest =>
      obtain ⟨x, hS, hh⟩ := hcut
      clear hwl hd1 hd2 d0 d1 d2 df hs64
      obtain ⟨P, hP⟩ : ∃ P, P = decide (0 < size) := ⟨_, rfl⟩
      rw [← hP] at hS
      obtain ⟨d0, d1, d2, df⟩ := hS.curs
      dsimp only at d1 d2
      have hBl : B ≤ l.length := by omega
      have hBA : at_ + k + size = B := by have := HA.out.1; omega
      have hnb : ¬ l.length - (at_ + k) < size := by have h1 := HA.out.1; have h2 := HA.out.2; have h3 := Hb.out; omega
      have HP := hid hP
      have Hx := hid (And.intro hh (And.intro hBA hnb))
      clear hP hh hBA hnb hAs hAl hBe
      by_cases hend : B = l.length
      · have hd1 : ((B : Int) == (l.length : Int)) = true := by rw [beq_iff_eq]; omega
        have hr : readM l at_ = none := by
          rw [readM_head H2.out.2 Hx.out.2.2, Hx.out.1, Hx.out.2.1, List.getElem?_eq_none (by omega)]
        have Hr := hid hr
        clear hr hend
        obtain ⟨⟨r0, r1, r2, r3, r4, r5, r6, r7, r8⟩, rf, z0, z1, z2, z3, z4, z5, z6, z7, z8⟩ := hS.zeros
        have H3 := hid hS
        clear hS
        go_wp2_with fail
        refine bodyPost_ret (v := .tuple #[.agg nodeZ, .bool false]) (by simp [results, Tryz.results60, go_sem, r0, r1, r2, r3, r4, r5, r6, r7, r8]) rfl ?_
        exact ⟨_, false, rfl, ⟨H3.out.low.os, H3.out.low.tape, H3.out.low.output, H3.out.low.size, H3.out.low.block⟩, Exp.zero, false, .slice none 0 0, rfl, ⟨none, 0, 0, rfl⟩, by rw [Hr.out]⟩
      have hd1 : ((B : Int) == (l.length : Int)) = false := by rw [beq_eq_false_iff_ne]; omega
      have hBlt : B < l.length := by omega
      obtain ⟨mb, hmb⟩ : ∃ mb, l[B]? = some mb := ⟨l[B], List.getElem?_eq_getElem hBlt⟩
      obtain ⟨bb, off, rfl, hcell⟩ := hS.cur.bs.at (by omega)
      have hcl := hcell B mb hmb
      have hM : mb.toNat < 256 := mb.toNat_lt
      obtain ⟨M, hMe⟩ : ∃ M, M = mb.toNat := ⟨_, rfl⟩
      have hr : readM l at_ = (restM l M ⟨B + 1, false⟩ []).map (fun ks => ⟨P, x, ks⟩) := by
        have := readM_rest H2.out.2 Hx.out.2.2 Hx.out.1 M ⟨B + 1, false⟩ (by rw [Hx.out.2.1, hMe]; unfold num1; simp [hmb])
        rw [this, HP.out]
      rw [← hMe] at hcl hM
      have hS5 := hS.setAt (B + 1) hBlt
      rw [show ((B + 1 : Nat) : Int) = (B : Int) + 1 from by omega] at hS5
      have hwB : IntKind.i64.wrap ((B : Int) + 1) = (B : Int) + 1 := IntWalk.i64_in _ (by omega)
      have HS := hid hS
      have Hr := hid hr
      clear hcell hmb hMe hr hend hS
      go_upto_region 17 with fail
      obtain ⟨W5, hW5⟩ : ∃ W5, W5 = wc.setCell ⟨R + 2, 1, none⟩ (.int .i64 ((B : Int) + 1)) := ⟨_, rfl⟩
      have hW5' : wc.setCell ⟨R + 1 + 1, 1, none⟩ (.int .i64 ((B : Int) + 1)) = W5 := hW5.symm
      rw [← hW5] at hS5
      rw [hW5']
      have H5 := hid hS5
      clear hW5 hW5' hS5 d0 d1 d2 df hcl hd1 hwB HS
      obtain ⟨RR, hRR⟩ : ∃ RR, RR = restM l M ⟨B + 1, false⟩ [] := ⟨_, rfl⟩
      rw [← hRR] at Hr
      have HRR := hid hRR
      clear hRR
      go_wp2_with fail
      go_loopw [12] (fun i wr => KidsR w R (R + 1) (R + 2) (some ⟨bb, off, none⟩) cap l x P M RR i wr) (fun i _ => M - (intOf i).toNat)
      case atStart => exact ⟨0, [], _, _, Nat.zero_le _, rfl, Nat.le_refl _, rfl, H5.out, by simp, HRR.out⟩
      case round =>
        obtain ⟨j, acc, s, kv, hj, rfl, hacc, hbad, hS, hne, hre⟩ := hrel
        have Hk := hid (And.intro hS (And.intro hbad (And.intro hne hre)))
        clear hS hbad hne hre
        by_cases hlt : j < M
        · have hltz : decide ((j : Int) < (M : Int)) = true := by simp; omega
          have hst := Hk.out.2.2.2
          rw [show M - j = (M - (j + 1)) + 1 from by omega, restM_ref l _ s acc Hk.out.2.1] at hst
          have Hst := hid hst
          clear hst
          go_wp2_with fail
          refine (ref_text_c _ (R + 2) _ cap l s Hk.out.1.cur).mono ?_
          rintro e w6 ⟨rfl, hc6, hg6⟩
          have h6 := Hk.out.1.call hc6 hg6
          obtain ⟨t, ht⟩ : ∃ t, t = (textRf l s).1 := ⟨_, rfl⟩
          obtain ⟨s6, hs6⟩ : ∃ s6, s6 = (textRf l s).2 := ⟨_, rfl⟩
          rw [← hs6] at h6
          rw [← ht]
          rw [← hs6, ← ht] at Hst
          have H6 := hid h6
          clear hc6 hg6 h6 hs6
          have Ht := hid ht
          clear ht
          go_upto_region 21 with fail
          have hba : Below w6.heap.size w6 (w6.alloc (.cells #[.string (mkS t), .int .i64 (-1)] 109)) := (Below.refl _ _).alloc (Nat.le_refl _) _
          have h7 := H6.out.below hba
          have hK : RowAt (w6.alloc (.cells #[.string (mkS t), .int .i64 (-1)] 109)) w6.heap.size 109 #[.string (mkS t), .int .i64 (-1)] := heap_alloc_new w6 _
          have hKc : R + 2 < w6.heap.size := H6.out.cur.row.lt
          have hKv : kv.ownBlock ≠ some w6.heap.size := fun h => Nat.lt_irrefl _ (World.ownsRow.lt H6.out.own _ h).2
          obtain ⟨K, hKe⟩ : ∃ K, K = w6.heap.size := ⟨_, rfl⟩
          obtain ⟨W7, hW7⟩ : ∃ W7, W7 = w6.alloc (.cells #[.string (mkS t), .int .i64 (-1)] 109) := ⟨_, rfl⟩
          rw [← hKe] at hK hKc hKv
          rw [← hW7] at h7 hK
          rw [← hKe, ← hW7]
          have H7 := hid (And.intro h7 (And.intro hK hKv))
          clear hba h7 hK hKv hKe hW7
          go_wp2_with fail
          refine (ref_number W7 (R + 2) _ cap l s6 H7.out.1.cur).mono ?_
          rintro e w8 ⟨rfl, hc8, hg8⟩
          have h8 := H7.out.1.call hc8 hg8
          have hK8 : RowAt w8 K 109 #[.string (mkS t), .int .i64 (-1)] := H7.out.2.1.grown hg8 (fun h => by have := Option.some.inj h; omega)
          have hto64 := numR_lt l s6
          obtain ⟨tv, htv⟩ : ∃ tv, tv = (numR l s6).1 := ⟨_, rfl⟩
          obtain ⟨s7, hs7⟩ : ∃ s7, s7 = (numR l s6).2 := ⟨_, rfl⟩
          rw [← hs7] at h8
          rw [← htv] at hto64 ⊢
          rw [← htv, ← hs7] at Hst
          have k0 : w8.cell? ⟨K, 0, none⟩ = some (.string (mkS t)) := cell_of_row w8 K 0 _ _ _ hK8
          have k1 : w8.cell? ⟨K, 1, none⟩ = some (.int .i64 (-1)) := cell_of_row w8 K 1 _ _ _ hK8
          have kf : ∀ i, w8.frozen? ⟨K, i, none⟩ = false := fun i => frozen_of_row w8 K i _ _ hK8
          have H8 := hid (And.intro h8 hK8)
          clear hc8 hg8 h8 hK8 htv hs7
          have hwl : IntKind.u64.wrap (l.length : Int) = (l.length : Int) := IntWalk.u64_in _ (by omega)
          go_upto_if 111 with fail
          go_cut [] from 97 to 149 (fun wx => NS w wx R (R + 1) (R + 2) (some ⟨bb, off, none⟩) cap l s7 x P kv acc ∧ RowAt wx K 109 #[.string (mkS t), .int .i64 (placeM tv l.length)])
          case first =>
            cases hto : decide (tv < l.length) with
            | true =>
              have hlt2 : tv < l.length := by simpa using hto
              have hp : placeM tv l.length = (tv : Int) := by unfold placeM; rw [if_neg (by omega)]
              have hwt : IntKind.i64.wrap (tv : Int) = (tv : Int) := IntWalk.i64_in _ (by omega)
              have Hp := hid hp
              clear hp hto hlt2
              go_wp2_with fail
              go_meet
              refine ⟨H8.out.1.far hKc H7.out.2.2 _, ?_⟩
              rw [Hp.out]
              unfold RowAt; rw [heap_setCell_same _ _ _ _ _ _ H8.out.2]; rfl
            | false =>
              have hlt2 : ¬ tv < l.length := by simpa using hto
              have hp : placeM tv l.length = -1 := by unfold placeM; rw [if_pos (by omega)]
              have Hp := hid hp
              clear hp hto hlt2
              go_wp2_with fail
              go_meet
              refine ⟨H8.out.1, ?_⟩
              rw [Hp.out]
              exact H8.out.2
          case rest =>
            obtain ⟨h9, hK9⟩ := hcut
            clear k0 k1 kf hwl hto64
            obtain ⟨d0, d1, d2, df⟩ := h9.curs
            have k0 : wc.cell? ⟨K, 0, none⟩ = some (.string (mkS t)) := cell_of_row wc K 0 _ _ _ hK9
            cases hb7 : s7.bad with
            | true =>
              rw [hb7] at d2
              have hrr : readM l at_ = none := by rw [Hr.out, Hst.out, if_pos (.inl hb7)]; rfl
              have Hrr := hid hrr
              clear hrr hb7 hK9
              obtain ⟨⟨r0, r1, r2, r3, r4, r5, r6, r7, r8⟩, rf, z0, z1, z2, z3, z4, z5, z6, z7, z8⟩ := h9.zeros
              have H9 := hid h9
              clear h9
              go_wp2_with fail
              refine bodyPost_ret (v := .tuple #[.agg nodeZ, .bool false]) (by simp [results, Tryz.results60, go_sem, r0, r1, r2, r3, r4, r5, r6, r7, r8]) rfl ?_
              exact ⟨_, false, rfl, ⟨H9.out.low.os, H9.out.low.tape, H9.out.low.output, H9.out.low.size, H9.out.low.block⟩, Exp.zero, false, .slice none 0 0, rfl, ⟨none, 0, 0, rfl⟩, by rw [Hrr.out]⟩
            | false =>
              rw [hb7] at d2
              have Hb7 := hid hb7
              clear hb7
              cases t with
              | nil =>
                have hrr : readM l at_ = none := by rw [Hr.out, Hst.out, if_pos (.inr rfl)]; rfl
                have Hrr := hid hrr
                clear hrr hK9
                obtain ⟨⟨r0, r1, r2, r3, r4, r5, r6, r7, r8⟩, rf, z0, z1, z2, z3, z4, z5, z6, z7, z8⟩ := h9.zeros
                have H9 := hid h9
                clear h9
                go_wp2_with fail
                refine bodyPost_ret (v := .tuple #[.agg nodeZ, .bool false]) (by simp [results, Tryz.results60, go_sem, r0, r1, r2, r3, r4, r5, r6, r7, r8]) rfl ?_
                exact ⟨_, false, rfl, ⟨H9.out.low.os, H9.out.low.tape, H9.out.low.output, H9.out.low.size, H9.out.low.block⟩, Exp.zero, false, .slice none 0 0, rfl, ⟨none, 0, 0, rfl⟩, by rw [Hrr.out]⟩
              | cons b r =>
                have hst := Hst.out
                rw [if_neg (by simp [Hb7.out])] at hst
                have Hst2 := hid hst
                have H9 := hid (And.intro h9 hK9)
                clear hst h9 hK9
                obtain ⟨kp, kc, hkv⟩ := H9.out.1.form
                subst hkv
                have x8 : wc.cell? ⟨R + 1, 8, none⟩ = some (.slice kp acc.length kc) := cell_of_row wc (R + 1) 8 _ _ _ H9.out.1.row
                have xf : wc.frozen? ⟨R + 1, 8, none⟩ = false := frozen_of_row wc (R + 1) 8 _ _ H9.out.1.row
                go_wp2_with fail
                go_loopw [15] (fun i wr => InnerR wc acc b i wr) (fun i _ => acc.length - (intOf i).toNat)
                case atStart => exact ⟨0, 0, Nat.zero_le _, rfl, rfl, rfl⟩
                case round =>
                  obtain ⟨i, q, hi, rfl, rfl, ha⟩ := hrel
                  have Ha := hid ha.out
                  clear ha
                  by_cases hil : i < acc.length
                  · have hd1 : decide ((i : Int) < (acc.length : Int)) = true := by simp; omega
                    obtain ⟨kd, hkd⟩ : ∃ kd, acc[i]? = some kd := ⟨_, List.getElem?_eq_getElem hil⟩
                    obtain ⟨g, cp, hg, hglt, e0, e1⟩ := kidsRow_at H9.out.1.own hkd
                    cases hg
                    obtain ⟨b2, r2', hbr⟩ : ∃ b2 r2, kd.edge = b2 :: r2 := by
                      cases hke : kd.edge with
                      | nil => exact absurd hke (Hk.out.2.2.1 kd (List.mem_of_getElem? hkd))
                      | cons b2 r2 => exact ⟨b2, r2, rfl⟩
                    rw [hbr] at e0
                    have Hkd := hid (And.intro hkd hbr)
                    clear hkd hbr e1
                    have hz1 : 0 < (mkS (b2 :: r2')).size := by rw [mkS_size]; simp
                    have hz2 : 0 < (mkS (b :: r)).size := by rw [mkS_size]; simp
                    by_cases hbe : b2 = b
                    · have hq : ((b2.toNat : Int) == (b.toNat : Int)) = true := by rw [hbe]; simp
                      have hrr : readM l at_ = none := by
                        rw [Hr.out, Hst2.out, if_pos (List.any_eq_true.2 ⟨kd, List.mem_of_getElem? Hkd.out.1, by rw [Hkd.out.2, hbe]; simp⟩)]; rfl
                      have Hrr := hid hrr
                      have h9 := H9.out.1
                      clear hrr hbe
                      go_wp2_with fail
                      go_quiet (fail)
                      obtain ⟨⟨r0, r1, r2, r3, r4, r5, r6, r7, r8⟩, rf, z0, z1, z2, z3, z4, z5, z6, z7, z8⟩ := h9.zeros
                      have H10 := hid h9
                      clear h9
                      go_wp2_with fail
                      refine bodyPost_ret (v := .tuple #[.agg nodeZ, .bool false]) (by simp [results, Tryz.results60, go_sem, r0, r1, r2, r3, r4, r5, r6, r7, r8]) rfl ?_
                      exact ⟨_, false, rfl, ⟨H10.out.low.os, H10.out.low.tape, H10.out.low.output, H10.out.low.size, H10.out.low.block⟩, Exp.zero, false, .slice none 0 0, rfl, ⟨none, 0, 0, rfl⟩, by rw [Hrr.out]⟩
                    · have hq : ((b2.toNat : Int) == (b.toNat : Int)) = false := by
                        rw [beq_eq_false_iff_ne]; intro e; exact hbe (UInt8.toNat_inj.1 (by omega))
                      have hs : (acc.take (i + 1)).any (fun x => x.edge.head? == some b) = false := by
                        rw [any_snoc Hkd.out.1, Ha.out, Hkd.out.2]; simp [hbe]
                      have Hs := hid hs
                      clear hs hbe
                      go_wp2_with fail
                      go_quiet (fail)
                      go_wp2_with fail
                      go_roundw
                      case rel => exact ⟨i + 1, _, by omega, by go_num, rfl, Hs.out⟩
                      case measure => simp [intOf]; omega
                  · have hd1 : decide ((i : Int) < (acc.length : Int)) = false := by simp; omega
                    have hany : acc.any (fun x => x.edge.head? == some b) = false := by
                      have := Ha.out
                      rwa [show i = acc.length by omega, List.take_length] at this
                    have hst := Hst2.out
                    rw [if_neg (by simp only [List.head?_cons]; rw [hany]; simp)] at hst
                    have Hst3 := hid hst
                    have h10 := H9.out.1.heap (W' := wc.drewN q) rfl rfl rfl rfl
                    have hK10 : RowAt (wc.drewN q) K 109 #[.string (mkS (b :: r)), .int .i64 (placeM tv l.length)] := H9.out.2
                    obtain ⟨W10, hW10⟩ : ∃ W10, W10 = wc.drewN q := ⟨_, rfl⟩
                    rw [← hW10] at h10 hK10 ⊢
                    clear hW10 hst hany d0 d1 d2 df k0 x8 xf
                    have x8 : W10.cell? ⟨R + 1, 8, none⟩ = some (.slice kp acc.length kc) := cell_of_row W10 (R + 1) 8 _ _ _ h10.row
                    have k0 : W10.cell? ⟨K, 0, none⟩ = some (.string (mkS (b :: r))) := cell_of_row W10 K 0 _ _ _ hK10
                    have k1 : W10.cell? ⟨K, 1, none⟩ = some (.int .i64 (placeM tv l.length)) := cell_of_row W10 K 1 _ _ _ hK10
                    have hsz10 := h10.cur.row.lt
                    obtain ⟨i0, hi0, hz0, hz1, hz2⟩ := info_parts Tryz.infoKidR
                    have H10 := hid (And.intro h10 (And.intro hK10 (And.intro hi0 (And.intro hz0 (And.intro hz1 hz2)))))
                    clear h10 hK10 hi0 hz0 hz1 hz2
                    go_wp2_with (at_builtin; refine wpList_append_grew _ rfl _ _ _ _ rfl (R + 2 + 1) 109 i0 _ 2 24 Tryz.underlying103 H10.out.2.2.1 H10.out.2.2.2.1 H10.out.2.2.2.2.1 H10.out.2.2.2.2.2 rfl _ acc.length (kidCells acc) rfl (ownsRow_below H10.out.1.own ((Below.refl _ _).alloc (Nat.le_refl _) _)) _ 1 (KidM.mk (b :: r) (placeM tv l.length)).cells rfl (Src.laid _ Tryz.underlying103 (KidM.mk (b :: r) (placeM tv l.length)).cells 1 rfl (by simp [KidM.cells, Value.oneCell']) (0, 0) (by simp)) ?c3 ?c4 ?c5 ?_)
                    case c3 => exact Nat.le_trans (show acc.length + 1 ≤ 5000 by omega) (by decide)
                    case c4 => omega
                    case c5 => simp; omega
                    intro v1 W11 hl1 hg1
                    have hg1 : Grew W10 W11 _ v1 := Grew.under ((Below.refl _ _).alloc (Nat.le_refl _) _) hg1
                    obtain ⟨vp, vc, hv1⟩ := ownsRow_form hl1
                    subst hv1
                    have x8' : W11.cell? ⟨R + 1, 8, none⟩ = some (.slice kp acc.length kc) := hg1.cell x8 (H10.out.1.kn (by omega))
                    have xf' : W11.frozen? ⟨R + 1, 8, none⟩ = false := frozen_of_row W11 (R + 1) 8 _ _ ((hg1.block H10.out.1.row.lt (H10.out.1.kn (by omega))).trans H10.out.1.row)
                    have H11 := hid (H10.out.1.put (k := ⟨b :: r, placeM tv l.length⟩) H1.out.2 hg1 (by rw [kidCells_snoc, List.length_append]; exact hl1))
                    clear hl1 hg1 x8
                    go_wp2
                    go_roundw
                    case rel =>
                      refine ⟨j + 1, acc ++ [KidM.mk (b :: r) (placeM tv l.length)], s7, .slice vp (acc.length + 1) vc, by omega, by go_num, by simp; omega, Hb7.out, H11.out, ?_, Hst3.out⟩
                      intro k hk
                      rcases List.mem_append.1 hk with h1 | h1
                      · exact Hk.out.2.2.1 k h1
                      · simp at h1; subst h1; simp
                    case measure => simp [intOf]; omega
        · have hltz : decide ((j : Int) < (M : Int)) = false := by simp; omega
          have hrr : readM l at_ = some ⟨P, x, acc⟩ := by
            rw [Hr.out, Hk.out.2.2.2, show M - j = 0 by omega, restM_zero, Hk.out.2.1]; rfl
          obtain ⟨kp, kc, hkv⟩ := Hk.out.1.form
          subst hkv
          have q0 : wr.cell? ⟨R + 1, 0, none⟩ = some (.bool P) := cell_of_row wr (R + 1) 0 _ _ _ Hk.out.1.row
          have q1 : wr.cell? ⟨R + 1, 1, none⟩ = some (.string (mkS x.name)) := cell_of_row wr (R + 1) 1 _ _ _ Hk.out.1.row
          have q2 : wr.cell? ⟨R + 1, 2, none⟩ = some (.int .i64 x.kind) := cell_of_row wr (R + 1) 2 _ _ _ Hk.out.1.row
          have q3 : wr.cell? ⟨R + 1, 3, none⟩ = some (.bool x.weak) := cell_of_row wr (R + 1) 3 _ _ _ Hk.out.1.row
          have q4 : wr.cell? ⟨R + 1, 4, none⟩ = some (.int .u64 (x.value : Int)) := cell_of_row wr (R + 1) 4 _ _ _ Hk.out.1.row
          have q5 : wr.cell? ⟨R + 1, 5, none⟩ = some (.int .u64 (x.resolver : Int)) := cell_of_row wr (R + 1) 5 _ _ _ Hk.out.1.row
          have q6 : wr.cell? ⟨R + 1, 6, none⟩ = some (.int .u64 (x.ordinal : Int)) := cell_of_row wr (R + 1) 6 _ _ _ Hk.out.1.row
          have q7 : wr.cell? ⟨R + 1, 7, none⟩ = some (.string (mkS x.other)) := cell_of_row wr (R + 1) 7 _ _ _ Hk.out.1.row
          have q8 : wr.cell? ⟨R + 1, 8, none⟩ = some (.slice kp acc.length kc) := cell_of_row wr (R + 1) 8 _ _ _ Hk.out.1.row
          obtain ⟨⟨r0, r1, r2, r3, r4, r5, r6, r7, r8⟩, rf, -⟩ := Hk.out.1.zeros
          have H6 := hid Hk.out.1.ret
          have Hrr := hid hrr
          clear hrr
          go_wp2_with fail
          rw [show (((((((((wr.setCell ⟨R, 0, none⟩ (.bool P)).setCell ⟨R, 1, none⟩ (.string (mkS x.name))).setCell ⟨R, 2, none⟩ (.int .i64 x.kind)).setCell ⟨R, 3, none⟩ (.bool x.weak)).setCell ⟨R, 4, none⟩ (.int .u64 (x.value : Int))).setCell ⟨R, 5, none⟩ (.int .u64 (x.resolver : Int))).setCell ⟨R, 6, none⟩ (.int .u64 (x.ordinal : Int))).setCell ⟨R, 7, none⟩ (.string (mkS x.other))).setCell ⟨R, 8, none⟩ (.slice kp acc.length kc)) = putN wr R x P (.slice kp acc.length kc) from rfl]
          obtain ⟨W6, hW6⟩ : ∃ W6, W6 = putN wr R x P (.slice kp acc.length kc) := ⟨_, rfl⟩
          rw [← hW6] at H6 ⊢
          clear hW6 q0 q1 q2 q3 q4 q5 q6 q7 q8 r0 r1 r2 r3 r4 r5 r6 r7 r8 rf
          have y0 : W6.cell? ⟨R, 0, none⟩ = some (.bool P) := cell_of_row W6 R 0 _ _ _ H6.out.1
          have y1 : W6.cell? ⟨R, 1, none⟩ = some (.string (mkS x.name)) := cell_of_row W6 R 1 _ _ _ H6.out.1
          have y2 : W6.cell? ⟨R, 2, none⟩ = some (.int .i64 x.kind) := cell_of_row W6 R 2 _ _ _ H6.out.1
          have y3 : W6.cell? ⟨R, 3, none⟩ = some (.bool x.weak) := cell_of_row W6 R 3 _ _ _ H6.out.1
          have y4 : W6.cell? ⟨R, 4, none⟩ = some (.int .u64 (x.value : Int)) := cell_of_row W6 R 4 _ _ _ H6.out.1
          have y5 : W6.cell? ⟨R, 5, none⟩ = some (.int .u64 (x.resolver : Int)) := cell_of_row W6 R 5 _ _ _ H6.out.1
          have y6 : W6.cell? ⟨R, 6, none⟩ = some (.int .u64 (x.ordinal : Int)) := cell_of_row W6 R 6 _ _ _ H6.out.1
          have y7 : W6.cell? ⟨R, 7, none⟩ = some (.string (mkS x.other)) := cell_of_row W6 R 7 _ _ _ H6.out.1
          have y8 : W6.cell? ⟨R, 8, none⟩ = some (.slice kp acc.length kc) := cell_of_row W6 R 8 _ _ _ H6.out.1
          refine bodyPost_ret (v := .tuple #[.agg (nodeR x P (.slice kp acc.length kc)), .bool true]) (by simp [results, Tryz.results60, go_sem, nodeR, y0, y1, y2, y3, y4, y5, y6, y7, y8]) rfl ?_
          exact ⟨_, true, rfl, H6.out.2.1, x, P, .slice kp acc.length kc, rfl, ⟨_, _, _, rfl⟩, by rw [Hrr.out]; exact ⟨rfl, rfl, rfl, H6.out.2.2⟩⟩
end Go.Proofs.YtipgcdpmkpjokaaGreatDoor
