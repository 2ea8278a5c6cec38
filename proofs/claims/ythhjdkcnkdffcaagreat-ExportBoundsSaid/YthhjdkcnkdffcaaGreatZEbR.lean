/- A node is read where the listed variable may be anything, as long as the node can be read. -/
import Derived.Test.YthhjdkcnkdffcaaGreatZEbS
import Derived.Test.YthhjdkcnkdffcaaGreatZRead
namespace Go.Proofs.YthhjdkcnkdffcaaGreat.Eb
set_option linter.unusedSimpArgs false
set_option linter.unusedVariables false
open Go.RowKit
theorem head_bad {l : List UInt8} {at_ size k : Nat} (hs : 0 < size) (h : (saysC l ⟨at_ + k, false⟩).2.2.bad = true) : headM l at_ size k = none := by
  unfold headM
  rw [if_neg (by omega)]
  have hR := saysC_R l (at_ + k)
  cases hr : saysR (l.drop (at_ + k)) with
  | none => rfl
  | some p =>
    obtain ⟨x, n⟩ := p
    rw [hr] at hR
    dsimp only at hR
    rw [hR] at h
    cases h
theorem text_bad {l : List UInt8} {m : Nat} {s s' : Cu} {t : List UInt8} (h : textC l m s = (t, s')) (hb : s'.bad = true) : t = [] := by
  unfold textC at h
  split at h
  · cases h; rfl
  · split at h
    · cases h; cases hb
    · cases h; rfl
theorem rest_bad {l : List UInt8} {n : Nat} {s s6 : Cu} {acc : List KidM} {t : List UInt8} (h : textC l 255 s = (t, s6)) (hb : s6.bad = true) (hn : 0 < n) : restM l n s acc = none := by
  obtain ⟨n, rfl⟩ : ∃ k, n = k + 1 := ⟨n - 1, by omega⟩
  obtain ⟨⟨o, s7⟩, h2⟩ : ∃ p, numC l s6 = p := ⟨_, rfl⟩
  rw [restM_step l n s s6 s7 acc t o h h2, if_pos (text_bad h hb)]
set_option maxHeartbeats 2000000 in
set_option maxRecDepth 4000 in
theorem trie_read {Bad : Prop} (w : World) (c k at_ : Nat) (l : List UInt8) (hl : l.length ≤ 140737488355328) (hne : l ≠ []) (hcu : CurAt w c l k false false) (het : EZ Bad w) (hbd : readM l at_ = none → Bad) (hat : at_ ≤ l.length) :
    Calls Tryz.prog 109 #[.pointer (some ⟨c, 0, none⟩), .int .i64 (l.length : Nat), .int .i64 (at_ : Nat)] w fun e w' =>
      ∃ nv b, e = .returned (.tuple #[nv, .bool b]) ∧ ReadEnd w w' c l at_ nv b := by
  have hcg := het.ne hcu
  have hclt := CurAt.lt hcu
  have h0 : SaysAt w (w.alloc (.cells #[.string ⟨#[]⟩, .int .i64 0, .bool false, .int .u64 0, .int .u64 0, .int .u64 0, .string ⟨#[]⟩, .bool false, .slice none 0 0] 189)) w.heap.size c l ⟨k, false⟩ 189 #[.string ⟨#[]⟩, .int .i64 0, .bool false, .int .u64 0, .int .u64 0, .int .u64 0, .string ⟨#[]⟩, .bool false, .slice none 0 0] :=
    ⟨heap_alloc_new w _, CurAt.below hcu ((Below.refl _ _).alloc (Nat.le_refl _) _), World.grownBy_alloc w _ _, Nat.le_refl _, by omega⟩
  have H0 := hid (And.intro h0 (And.intro het (And.intro hcg hbd)))
  have HC := hid hclt
  obtain ⟨X, hX⟩ : ∃ X, X = w.heap.size := ⟨_, rfl⟩
  have HX := hid hX
  clear hcu het hcg hclt h0 hbd
  go_enter Tryz.func109, Tryz.ntmps109
  go_wp2_with fail
  refine (cur_seek_ok c _ l _ at_ (at_ : Int) false H0.out.1.cur rfl hat).mono ?_
  rintro e w1 ⟨rfl, hc1, hg1⟩
  have h1 : SaysAt w w1 w.heap.size c l ⟨at_, false⟩ _ _ := H0.out.1.call hc1 hg1
  rw [← hX] at h1
  rw [← hX]
  have H1 := hid h1
  clear hc1 hg1 h1 hX
  go_wp2_with fail
  refine (leb_uleb _ c l _ hl H1.out.cur (fun h => by cases h)).mono ?_
  rintro e w2 ⟨size, s2, hn2, rfl, hc2, hg2⟩
  have h2 := H1.out.call hc2 hg2
  have hsz := numC_lt hn2
  cases hu : ulebM (l.drop at_) with
  | none =>
    rw [numC_none hu] at hn2
    cases hn2
    have H2 := hid (And.intro h2 hu)
    clear h2 hc2 hg2 hu
    go_wp2_with fail
    refine (cur_err_z c w2 l at_ false true H2.out.1.cur ((says_et H2.out.1 H0.out.2.1 H0.out.2.2.1).mono (fun _ => H0.out.2.2.2 (readM_none H2.out.2)))).mono ?_
    rintro e w3 ⟨rfl, hb3⟩
    have h3 := H2.out.1.below hb3
    have z0 := h3.cell 0
    have z1 := h3.cell 1
    have z2 := h3.cell 2
    have z3 := h3.cell 3
    have z4 := h3.cell 4
    have z5 := h3.cell 5
    have z6 := h3.cell 6
    have z7 := h3.cell 7
    have z8 := h3.cell 8
    have hz := h3.own
    simp at z0 z1 z2 z3 z4 z5 z6 z7 z8
    have H3 := hid h3
    clear h3 hb3
    go_wp2_with fail
    refine bodyPost_ret (v := .tuple #[.agg #[.string ⟨#[]⟩, .int .i64 0, .bool false, .int .u64 0, .int .u64 0, .int .u64 0, .string ⟨#[]⟩, .bool false, .slice none 0 0], .bool false]) (by simp [results, Tryz.results109, go_sem, z0, z1, z2, z3, z4, z5, z6, z7, z8]) rfl ?_
    have h4 := H3.out.zeroed
    refine ⟨_, false, rfl, ⟨_, h4.cur, fun h => by cases h⟩, h4.grown, Exp.zero, false, .slice none 0 0, rfl, ⟨none, 0, 0, rfl⟩, ?_⟩
    rw [readM_none H2.out.2]
  | some p =>
    obtain ⟨n', k'⟩ := p
    rw [numC_some hu] at hn2
    obtain ⟨rfl, rfl⟩ := Prod.mk.inj hn2
    have hul := ulebM_lt hu
    rw [List.length_drop] at hul
    have H2 := hid (And.intro h2 hu)
    clear h2 hc2 hg2 hu hn2
    have hcw := H2.out.1.cur
    obtain ⟨pp, cap, g0, g1, hk2⟩ : ∃ p cap, w2.cell? ⟨c, 0, none⟩ = some (.slice p l.length cap) ∧ w2.cell? ⟨c, 1, none⟩ = some (.int .i64 ((at_ + k' : Nat) : Int)) ∧ at_ + k' ≤ l.length := by
      obtain ⟨v, hv, hb, hkj, hc⟩ := hcw
      obtain ⟨p, cap, rfl, _⟩ := id hv
      exact ⟨p, cap, (cur_cells hc).1.1, (cur_cells hc).1.2.1, hkj⟩
    clear hcw
    have Hg := hid (And.intro g0 g1)
    clear g0 g1
    go_wp2_with fail
    refine (cur_err_z c w2 l (at_ + k') false false H2.out.1.cur (fun h => by cases h)).mono ?_
    rintro e w3 ⟨rfl, hb3⟩
    have h3 := H2.out.1.below hb3
    have g0 := (hb3.cell (p := ⟨c, 0, none⟩) (lt_of_cellB Hg.out.1)).trans Hg.out.1
    have g1 := (hb3.cell (p := ⟨c, 1, none⟩) (lt_of_cellB Hg.out.1)).trans Hg.out.2
    have H3 := hid h3
    clear h3 hb3
    have hwl : IntKind.u64.wrap ((l.length : Int) - ((at_ + k' : Nat) : Int)) = ((l.length - (at_ + k') : Nat) : Int) := by rw [show (l.length : Int) - ((at_ + k' : Nat) : Int) = ((l.length - (at_ + k') : Nat) : Int) from by omega]; exact IntWalk.u64_in _ (by omega)
    go_wp2_with fail
    refine (cur_left c w3 pp l.length cap (at_ + k') hk2 hl g0 g1).mono ?_
    rintro e w4 ⟨rfl, q, rfl⟩
    have h3' : SaysAt w (w3.drewN q) X c l ⟨at_ + k', false⟩ _ _ := H3.out.heap rfl rfl rfl rfl
    have g1' : (w3.drewN q).cell? ⟨c, 1, none⟩ = some (.int .i64 ((at_ + k' : Nat) : Int)) := g1
    obtain ⟨W3, hW3⟩ : ∃ W, W = w3.drewN q := ⟨_, rfl⟩
    rw [← hW3] at h3' g1' ⊢
    clear g0 g1 hW3
    have Hg1 := hid g1'
    clear g1'
    obtain ⟨LL, hLL⟩ : ∃ LL : Int, LL = (l.length : Int) - ((at_ + k' : Nat) : Int) := ⟨_, rfl⟩
    rw [← hLL] at hwl ⊢
    obtain ⟨lf, hlf⟩ : ∃ lf, lf = l.length - (at_ + k') := ⟨_, rfl⟩
    rw [← hlf] at hwl
    have Hlf := hid (And.intro hLL hlf)
    have H4 := hid h3'
    clear hLL h3'
    by_cases hbig : lf < n'
    · have hd : decide ((lf : Int) < (n' : Int)) = true := by simp; omega
      have hd2 : decide (lf < n') = true := by simp; omega
      have Hbig := hid hbig
      have z0 := H4.out.cell 0
      have z1 := H4.out.cell 1
      have z2 := H4.out.cell 2
      have z3 := H4.out.cell 3
      have z4 := H4.out.cell 4
      have z5 := H4.out.cell 5
      have z6 := H4.out.cell 6
      have z7 := H4.out.cell 7
      have z8 := H4.out.cell 8
      have hz := H4.out.own
      simp at z0 z1 z2 z3 z4 z5 z6 z7 z8
      clear hbig hlf
      go_wp2_with fail
      refine bodyPost_ret (v := .tuple #[.agg #[.string ⟨#[]⟩, .int .i64 0, .bool false, .int .u64 0, .int .u64 0, .int .u64 0, .string ⟨#[]⟩, .bool false, .slice none 0 0], .bool false]) (by simp [results, Tryz.results109, go_sem, z0, z1, z2, z3, z4, z5, z6, z7, z8]) rfl ?_
      have h4 := H4.out.zeroed
      refine ⟨_, false, rfl, ⟨_, h4.cur, fun h => by cases h⟩, h4.grown, Exp.zero, false, .slice none 0 0, rfl, ⟨none, 0, 0, rfl⟩, ?_⟩
      rw [readM_big H2.out.2 (by have h1 := Hlf.out.2; have h2 := Hbig.out; omega)]
    · have hd : decide ((lf : Int) < (n' : Int)) = false := by simp; omega
      have hd2 : decide (lf < n') = false := by simp; omega
      have Hbig := hid hbig
      clear hbig hlf
      go_wp2_with fail
      refine (cur_at c W3 (at_ + k') Hg1.out).mono ?_
      rintro e w4 ⟨rfl, rfl⟩
      go_upto_if 31 with fail
      go_cut [7] (fun b wx => ∃ x, HeadAt w wx X c l at_ n' k' x)
      case first =>
        cases hP : decide (0 < n') with
        | false =>
          have Hz0 := hid hP
          clear hP
          go_wp2_with fail
          go_meet
          have hz0 : n' = 0 := by have := Hz0.out; simp at this; exact this
          refine ⟨Exp.zero, ?_, ?_⟩
          · have h := H4.out
            rw [Hz0.out, show at_ + k' + n' = at_ + k' from by omega]
            exact h
          · unfold headM; rw [if_pos hz0]
        | true =>
          have Hz0 := hid hP
          clear hP
          have y7 := H4.out.cell 7
          have hz := H4.out.own
          simp at y7
          have H5 := hid (H4.out.set 7 (.bool true) _ rfl (fun n h => by cases h))
          go_wp2_with fail
          clear y7 hz
          refine (trie_says _ c l _ hl hne H5.out.cur (says_et H5.out H0.out.2.1 H0.out.2.2.1) (fun h => H0.out.2.2.2 (readM_no H2.out.2 (head_bad (by have := Hz0.out; simpa using this) h)))).mono ?_
          rintro e w5 ⟨x, b, s5, hsc, rfl, hc5, hg5⟩
          have h6 := H5.out.call hc5 hg5
          have y0 := h6.cell 0
          have y1 := h6.cell 1
          have y2 := h6.cell 2
          have y3 := h6.cell 3
          have y4 := h6.cell 4
          have y5 := h6.cell 5
          have y6 := h6.cell 6
          have y7 := h6.cell 7
          have y8 := h6.cell 8
          have hz := h6.own
          simp at y0 y1 y2 y3 y4 y5 y6 y7 y8
          have H6 := hid h6
          clear hc5 hg5 h6
          have hR := saysC_R l (at_ + k')
          rw [hsc] at hR
          rw [show x.cells.toArray = #[.string (mkS x.name), .int .i64 x.kind, .bool x.weak, .int .u64 (x.value : Int), .int .u64 (x.resolver : Int), .int .u64 (x.ordinal : Int), .string (mkS x.other)] from rfl]
          have Hn0 : 0 < n' := by have := Hz0.out; simpa using this
          cases hr : saysR (l.drop (at_ + k')) with
          | none =>
            have hb : b = false := by
              rw [hr] at hR
              exact hR
            subst hb
            have Hr := hid hr
            clear hr hR hsc
            go_upto_if 49 with fail
            obtain ⟨W6, hW6⟩ : ∃ W, W = (((((((w5.setCell ⟨X, 0, none⟩ (.string (mkS x.name))).setCell ⟨X, 1, none⟩ (.int .i64 x.kind)).setCell ⟨X, 2, none⟩ (.bool x.weak)).setCell ⟨X, 3, none⟩ (.int .u64 (x.value : Int))).setCell ⟨X, 4, none⟩ (.int .u64 (x.resolver : Int))).setCell ⟨X, 5, none⟩ (.int .u64 (x.ordinal : Int))).setCell ⟨X, 6, none⟩ (.string (mkS x.other))) := ⟨_, rfl⟩
            rw [← hW6]
            have h7 := SaysAt.said x H6.out
            rw [← hW6] at h7
            have H7 := hid h7
            clear hW6 h7 y0 y1 y2 y3 y4 y5 y6 y7 y8 hz
            have z0 := H7.out.cell 0
            have z1 := H7.out.cell 1
            have z2 := H7.out.cell 2
            have z3 := H7.out.cell 3
            have z4 := H7.out.cell 4
            have z5 := H7.out.cell 5
            have z6 := H7.out.cell 6
            have z7 := H7.out.cell 7
            have z8 := H7.out.cell 8
            have hz := H7.out.own
            simp at z0 z1 z2 z3 z4 z5 z6 z7 z8
            go_wp2_with fail
            refine bodyPost_ret (v := .tuple #[.agg #[.string ⟨#[]⟩, .int .i64 0, .bool false, .int .u64 0, .int .u64 0, .int .u64 0, .string ⟨#[]⟩, .bool false, .slice none 0 0], .bool false]) (by simp [results, Tryz.results109, go_sem, z0, z1, z2, z3, z4, z5, z6, z7, z8]) rfl ?_
            have h4 := H7.out.zeroed
            refine ⟨_, false, rfl, ⟨_, h4.cur, fun h => by cases h⟩, h4.grown, Exp.zero, false, .slice none 0 0, rfl, ⟨none, 0, 0, rfl⟩, ?_⟩
            rw [readM_no H2.out.2 (by unfold headM; rw [if_neg (by omega), Hr.out])]
          | some p =>
            obtain ⟨y, k2⟩ := p
            rw [hr] at hR
            obtain ⟨rfl, rfl, rfl⟩ : x = y ∧ b = true ∧ s5 = ⟨at_ + k' + k2, false⟩ := by
              have := hR; simp only [Prod.mk.injEq] at this; exact this
            have Hr := hid hr
            clear hr hR hsc
            go_wp2_with fail
            obtain ⟨W6, hW6⟩ : ∃ W, W = (((((((w5.setCell ⟨X, 0, none⟩ (.string (mkS x.name))).setCell ⟨X, 1, none⟩ (.int .i64 x.kind)).setCell ⟨X, 2, none⟩ (.bool x.weak)).setCell ⟨X, 3, none⟩ (.int .u64 (x.value : Int))).setCell ⟨X, 4, none⟩ (.int .u64 (x.resolver : Int))).setCell ⟨X, 5, none⟩ (.int .u64 (x.ordinal : Int))).setCell ⟨X, 6, none⟩ (.string (mkS x.other))) := ⟨_, rfl⟩
            rw [← hW6]
            have h7 := SaysAt.said x H6.out
            rw [← hW6] at h7
            have hpl : W6.cell? ⟨c, 1, none⟩ = some (.int .i64 ((at_ + k' + k2 : Nat) : Int)) ∧ at_ + k' + k2 ≤ l.length := by
              obtain ⟨v, hv, hb, hkj, hc⟩ := h7.cur
              exact ⟨(cur_cells hc).1.2.1, hkj⟩
            have H7 := hid h7
            clear hW6 h7 y0 y1 y2 y3 y4 y5 y6 y7 y8 hz
            refine (cur_at c W6 (at_ + k' + k2) hpl.1).mono ?_
            rintro e w8 ⟨rfl, rfl⟩
            have hwk : IntKind.u64.wrap (((at_ + k' + k2 : Nat) : Int) - ((at_ + k' : Nat) : Int)) = (k2 : Int) := by rw [show ((at_ + k' + k2 : Nat) : Int) - ((at_ + k' : Nat) : Int) = (k2 : Int) from by omega]; exact IntWalk.u64_in _ (by omega)
            have hne2 : ((at_ : Int) + (k' : Int) + (k2 : Int) - ((at_ : Int) + (k' : Int)) != (n' : Int)) = !decide (k2 = n') := by
              rw [show (at_ : Int) + (k' : Int) + (k2 : Int) - ((at_ : Int) + (k' : Int)) = (k2 : Int) from by omega]
              by_cases h : k2 = n'
              · subst h; simp
              · rw [decide_eq_false h]; simp; omega
            cases hQ : decide (k2 = n') with
            | false =>
              rw [hQ] at hne2
              have HQ := hid hQ
              clear hQ
              have z0 := H7.out.cell 0
              have z1 := H7.out.cell 1
              have z2 := H7.out.cell 2
              have z3 := H7.out.cell 3
              have z4 := H7.out.cell 4
              have z5 := H7.out.cell 5
              have z6 := H7.out.cell 6
              have z7 := H7.out.cell 7
              have z8 := H7.out.cell 8
              have hz := H7.out.own
              simp at z0 z1 z2 z3 z4 z5 z6 z7 z8
              go_wp2_with fail
              refine bodyPost_ret (v := .tuple #[.agg #[.string ⟨#[]⟩, .int .i64 0, .bool false, .int .u64 0, .int .u64 0, .int .u64 0, .string ⟨#[]⟩, .bool false, .slice none 0 0], .bool false]) (by simp [results, Tryz.results109, go_sem, z0, z1, z2, z3, z4, z5, z6, z7, z8]) rfl ?_
              have h4 := H7.out.zeroed
              refine ⟨_, false, rfl, ⟨_, h4.cur, fun h => by cases h⟩, h4.grown, Exp.zero, false, .slice none 0 0, rfl, ⟨none, 0, 0, rfl⟩, ?_⟩
              rw [readM_no H2.out.2 (by unfold headM; rw [if_neg (by omega), Hr.out]; dsimp only; rw [if_neg (by have := HQ.out; simpa using this)])]
            | true =>
              rw [hQ] at hne2
              have HQ := hid hQ
              clear hQ
              go_wp2_with fail
              go_meet
              have e : k2 = n' := by have := HQ.out; simpa using this
              refine ⟨x, ?_, ?_⟩
              · have h := H7.out
                rw [Hz0.out, ← e]
                exact h
              · unfold headM; rw [if_neg (by omega), Hr.out]; dsimp only; rw [if_pos e]
      case rest =>
        obtain ⟨x, hx⟩ := hcut
        have hk0 : KidsIn w _ X wc.heap.size c l ⟨at_ + k' + n', false⟩ x (decide (0 < n')) (.slice none 0 0) [] Tryz.zeroCells207 := KidsIn.start hx.row HC.out _
        have Hk0 := hid hk0
        have Hx := hid hx.eq
        clear hx hk0
        go_wp2_with fail
        refine (cur_num1 c _ l ⟨at_ + k' + n', false⟩ Hk0.out.cur hl).mono ?_
        rintro e w5 ⟨m, s5, hnum, rfl, hc5, hg5⟩
        have hm := num1_lt hnum
        have H5 := hid (And.intro (Hk0.out.call hc5 hg5) hnum)
        clear hc5 hg5 hnum
        obtain ⟨F, hF⟩ : ∃ F, F = wc.heap.size := ⟨_, rfl⟩
        rw [← hF] at H5 ⊢
        clear hF
        go_wp2_with fail
        go_loopw [53] (fun i wr => ∃ j acc A s kv, j ≤ m ∧ i = .int .u64 ((j : Nat) : Int) ∧ acc.length ≤ j ∧ Aside (KidsIn w wr X F c l s x (decide (0 < n')) kv acc A) ∧ Aside (FirstsOf A acc) ∧ Aside (restM l m s5 [] = restM l (m - j) s acc)) (fun i _ => m - (intOf i).toNat)
        case atStart => exact ⟨0, [], _, s5, _, Nat.zero_le _, rfl, Nat.le_refl _, H5.out.1, firsts_none, rfl⟩
        case round =>
          obtain ⟨j, acc, A, s, kv, hj, rfl, hacc, hk, hfi, hre⟩ := hrel
          have Hk := hid hk.out
          have Hre := hid (And.intro hfi.out hre.out)
          clear hk hfi hre
          by_cases hlt : j < m
          · have hltz : decide ((j : Int) < (m : Int)) = true := by simp; omega
            go_wp2_with fail
            refine (cur_text c _ l s Hk.out.cur hne).mono ?_
            rintro e w6 ⟨t, s6, htx, rfl, hc6, hg6⟩
            have H6 := hid (Hk.out.call hc6 hg6)
            have Htx := hid htx
            clear hc6 hg6 htx
            go_wp2_with fail
            have h7 := H6.out.below ((Below.refl _ _).alloc (Nat.le_refl _) (.cells #[.string (mkS t), .int .i64 0] 193))
            have hK : RowAt (w6.alloc (.cells #[.string (mkS t), .int .i64 0] 193)) w6.heap.size 193 _ := heap_alloc_new w6 _
            have hKX : X ≠ w6.heap.size := Nat.ne_of_lt H6.out.row.lt
            have hKF : F ≠ w6.heap.size := Nat.ne_of_lt H6.out.fir.lt
            have hKkv : kv.ownBlock ≠ some w6.heap.size := fun h => Nat.lt_irrefl _ (World.ownsRow.lt H6.out.own _ h).2
            have hKw : w.heap.size ≤ w6.heap.size := H6.out.size
            obtain ⟨K, hKe⟩ : ∃ K, K = w6.heap.size := ⟨_, rfl⟩
            rw [← hKe] at hK hKX hKF hKkv hKw ⊢
            clear hKe
            have hcw := HC.out
            refine (leb_uleb _ c l s6 hl h7.cur ((says_et h7.says H0.out.2.1 H0.out.2.2.1).mono (fun h => H0.out.2.2.2 (by rw [readM_rest H2.out.2 (by have h1 := Hlf.out.2; have h2 := Hbig.out; omega) Hx.out m s5 H5.out.2, Hre.out.2, rest_bad Htx.out h (by omega)]; rfl)))).mono ?_
            rintro e w7 ⟨tv, s7, hto, rfl, hc7, hg7⟩
            have h8 := h7.call hc7 hg7
            have hK7 : RowAt w7 K _ _ := hK.grown hg7 (fun h => by have := Option.some.inj h; omega)
            have hto64 := numC_lt hto
            have k0 : w7.cell? ⟨K, 0, none⟩ = some (.string (mkS t)) := cell_of_row w7 K 0 _ _ _ hK7
            have k1 : w7.cell? ⟨K, 1, none⟩ = some (.int .i64 0) := cell_of_row w7 K 1 _ _ _ hK7
            have kf : ∀ i, w7.frozen? ⟨K, i, none⟩ = false := fun i => frozen_of_row w7 K i _ _ hK7
            have Hne := hid (And.intro hKX (And.intro hKF (And.intro hKkv hKw)))
            have H8 := hid (And.intro h8 (And.intro hto hK7))
            clear h7 hK hKX hKF hKkv hKw hc7 hg7 h8 hK7 hto hcw
            go_wp2_with fail
            refine (trie_place w7 tv l.length hto64 hl).mono ?_
            rintro e w8 ⟨rfl, rfl⟩
            have hst : restM l m s5 [] = if t = [] then none else if acc.any (fun x => x.edge.head? == t.head?) then none else restM l (m - (j + 1)) s7 (acc ++ [⟨t, placeM tv l.length⟩]) := by
              rw [Hre.out.2, show m - j = (m - (j + 1)) + 1 from by omega]; exact restM_step l _ s s6 s7 acc t tv Htx.out H8.out.2.1
            have Hst := hid hst
            clear hst
            cases t with
            | nil =>
              go_upto_if 72 with fail
              obtain ⟨W9, hW9⟩ : ∃ W, W = w8.setCell ⟨K, 1, none⟩ (.int .i64 (placeM tv l.length)) := ⟨_, rfl⟩
              rw [← hW9]
              have h9 := H8.out.1.setK (i := 1) Hne.out.2.2.2 Hne.out.1 Hne.out.2.1 Hne.out.2.2.1 (.int .i64 (placeM tv l.length))
              rw [← hW9] at h9
              obtain ⟨kp, kc, hkv⟩ := h9.form
              subst hkv
              have H9 := hid h9.says
              clear h9 hW9 k0 k1 kf
              have z0 := H9.out.cell 0
              have z1 := H9.out.cell 1
              have z2 := H9.out.cell 2
              have z3 := H9.out.cell 3
              have z4 := H9.out.cell 4
              have z5 := H9.out.cell 5
              have z6 := H9.out.cell 6
              have z7 := H9.out.cell 7
              have z8 := H9.out.cell 8
              have hz := H9.out.own
              simp [nodeCells] at z0 z1 z2 z3 z4 z5 z6 z7 z8
              go_wp2_with fail
              refine bodyPost_ret (v := .tuple #[.agg #[.string ⟨#[]⟩, .int .i64 0, .bool false, .int .u64 0, .int .u64 0, .int .u64 0, .string ⟨#[]⟩, .bool false, .slice none 0 0], .bool false]) (by simp [results, Tryz.results109, go_sem, z0, z1, z2, z3, z4, z5, z6, z7, z8]) rfl ?_
              have h4 := SaysAt.zeroed H9.out
              refine ⟨_, false, rfl, ⟨_, h4.cur, fun h => by cases h⟩, h4.grown, Exp.zero, false, .slice none 0 0, rfl, ⟨none, 0, 0, rfl⟩, ?_⟩
              rw [readM_rest H2.out.2 (by have h1 := Hlf.out.2; have h2 := Hbig.out; omega) Hx.out m s5 H5.out.2, Hst.out, if_pos trivial]
              rfl
            | cons b r =>
              obtain ⟨fb, hfb⟩ : ∃ fb, fb = acc.any (fun k => k.edge.head? == some b) := ⟨_, rfl⟩
              have hFc : w8.cell? ⟨F, b.toNat, none⟩ = some (.bool fb) := by rw [cell_of_row w8 F b.toNat _ _ _ H8.out.1.fir, Hre.out.1.2 b, hfb]
              have hb256 : (b.toNat : Int) < 256 := by have := b.toNat_lt; omega
              have hb0 : (0 : Int) ≤ (b.toNat : Int) := by omega
              have hKF' : F ≠ K := Hne.out.2.1
              have Hfb := hid hfb
              clear hfb
              go_upto_if 72 with fail
              obtain ⟨W9, hW9⟩ : ∃ W, W = w8.setCell ⟨K, 1, none⟩ (.int .i64 (placeM tv l.length)) := ⟨_, rfl⟩
              rw [← hW9]
              have h9 := H8.out.1.setK (i := 1) Hne.out.2.2.2 Hne.out.1 Hne.out.2.1 Hne.out.2.2.1 (.int .i64 (placeM tv l.length))
              rw [← hW9] at h9
              have hK9 : RowAt W9 K 193 #[.string (mkS (b :: r)), .int .i64 (placeM tv l.length)] := by
                rw [hW9]; unfold RowAt; rw [heap_setCell_same _ _ _ _ _ _ H8.out.2.2]; rfl
              clear hFc hKF'
              cases fb with
              | true =>
                clear hK9
                obtain ⟨kp, kc, hkv⟩ := h9.form
                subst hkv
                have H9 := hid h9.says
                clear h9 hW9 k0 k1 kf
                have z0 := H9.out.cell 0
                have z1 := H9.out.cell 1
                have z2 := H9.out.cell 2
                have z3 := H9.out.cell 3
                have z4 := H9.out.cell 4
                have z5 := H9.out.cell 5
                have z6 := H9.out.cell 6
                have z7 := H9.out.cell 7
                have z8 := H9.out.cell 8
                have hz := H9.out.own
                simp [nodeCells] at z0 z1 z2 z3 z4 z5 z6 z7 z8
                go_wp2_with fail
                refine bodyPost_ret (v := .tuple #[.agg #[.string ⟨#[]⟩, .int .i64 0, .bool false, .int .u64 0, .int .u64 0, .int .u64 0, .string ⟨#[]⟩, .bool false, .slice none 0 0], .bool false]) (by simp [results, Tryz.results109, go_sem, z0, z1, z2, z3, z4, z5, z6, z7, z8]) rfl ?_
                have h4 := SaysAt.zeroed H9.out
                refine ⟨_, false, rfl, ⟨_, h4.cur, fun h => by cases h⟩, h4.grown, Exp.zero, false, .slice none 0 0, rfl, ⟨none, 0, 0, rfl⟩, ?_⟩
                rw [readM_rest H2.out.2 (by have h1 := Hlf.out.2; have h2 := Hbig.out; omega) Hx.out m s5 H5.out.2, Hst.out, if_neg (by simp), if_pos (by have := Hfb.out; simpa using this.symm)]
                rfl
              | false =>
                have hFc : W9.cell? ⟨F, b.toNat, none⟩ = some (.bool false) := by rw [cell_of_row W9 F b.toNat _ _ _ h9.fir, Hre.out.1.2 b, Hfb.out]
                have hFf : W9.frozen? ⟨F, b.toNat, none⟩ = false := frozen_of_row W9 F b.toNat _ _ h9.fir
                have k0 : W9.cell? ⟨K, 0, none⟩ = some (.string (mkS (b :: r))) := cell_of_row W9 K 0 _ _ _ hK9
                have h10 := h9.setF b.toNat (.bool true)
                have hK10 := hK9.other (Ne.symm Hne.out.2.1) (i := b.toNat) (.bool true)
                clear hW9 h9 hK9
                go_upto_region 19 with fail
                obtain ⟨W10, hW10⟩ : ∃ W, W = W9.setCell ⟨F, b.toNat, none⟩ (.bool true) := ⟨_, rfl⟩
                rw [← hW10] at h10 hK10 ⊢
                clear hW10 hFc hFf k0
                obtain ⟨kp, kc, hkv⟩ := h10.form
                subst hkv
                have x8 : W10.cell? ⟨X, 8, none⟩ = some (.slice kp acc.length kc) := cell_of_row W10 X 8 _ _ _ h10.row
                have xf : W10.frozen? ⟨X, 8, none⟩ = false := frozen_of_row W10 X 8 _ _ h10.row
                have k0 : W10.cell? ⟨K, 0, none⟩ = some (.string (mkS (b :: r))) := cell_of_row W10 K 0 _ _ _ hK10
                have k1 : W10.cell? ⟨K, 1, none⟩ = some (.int .i64 (placeM tv l.length)) := cell_of_row W10 K 1 _ _ _ hK10
                have hsz10 := h10.size
                obtain ⟨i0, hi, hz0, hz1, hz2⟩ := info_parts Tryz.infoKid
                have H10 := hid (And.intro h10 (And.intro hK10 (And.intro hi (And.intro hz0 (And.intro hz1 hz2)))))
                clear h10 hK10 hi hz0 hz1 hz2
                go_wp2_with (at_builtin; refine wpList_append_grew _ rfl _ _ _ _ rfl w.heap.size 193 i0 _ 2 24 Tryz.underlying187 H10.out.2.2.1 H10.out.2.2.2.1 H10.out.2.2.2.2.1 H10.out.2.2.2.2.2 rfl _ acc.length (kidCells acc) rfl (ownsRow_below H10.out.1.own ((Below.refl _ _).alloc (Nat.le_refl _) _)) _ 1 (KidM.mk (b :: r) (placeM tv l.length)).cells rfl (Src.laid _ Tryz.underlying187 (KidM.mk (b :: r) (placeM tv l.length)).cells 1 rfl (by simp [KidM.cells, Value.oneCell']) (0, 0) (by simp)) ?c3 ?c4 ?c5 ?_)
                case c3 => exact Nat.le_trans (show acc.length + 1 ≤ 5000 by omega) (by decide)
                case c4 => omega
                case c5 => simp; omega
                intro v1 W1 hl1 hg1
                have hg1 : Grew W10 W1 _ v1 := Grew.under ((Below.refl _ _).alloc (Nat.le_refl _) _) hg1
                obtain ⟨vp, vc, hv1⟩ := ownsRow_form hl1
                subst hv1
                have x8' : W1.cell? ⟨X, 8, none⟩ = some (.slice kp acc.length kc) := hg1.cell x8 H10.out.1.kX
                have xf' : W1.frozen? ⟨X, 8, none⟩ = false := frozen_of_row W1 X 8 _ _ ((hg1.block H10.out.1.row.lt H10.out.1.kX).trans H10.out.1.row)
                have H11 := hid (H10.out.1.more ⟨b :: r, placeM tv l.length⟩ hg1 (by unfold KB; rw [kidCells_snoc, List.length_append]; exact hl1))
                clear hl1 hg1 x8 xf
                go_wp2
                go_roundw
                case rel =>
                  refine ⟨j + 1, acc ++ [KidM.mk (b :: r) (placeM tv l.length)], A.setIfInBounds b.toNat (.bool true), s7, .slice vp (acc.length + 1) vc, by omega, by go_num, by simp; omega, ?_, ?_, ?_⟩
                  · exact H11.out
                  · exact Hre.out.1.mark b _ rfl
                  · show restM l m s5 [] = _
                    rw [Hst.out, if_neg (by simp), if_neg (by have := Hfb.out; simpa using this.symm)]
                case measure => simp [intOf]; omega
          · have hltz : decide ((j : Int) < (m : Int)) = false := by simp; omega
            obtain rfl : j = m := by omega
            have hend : restM l j s5 [] = if s.bad then none else some acc := by rw [Hre.out.2, Nat.sub_self]; rfl
            have hs := Hk.out.says
            obtain ⟨kp, kc, hkv⟩ := Hk.out.form
            subst hkv
            have c0 := hs.cell 0
            have c1 := hs.cell 1
            have c2 := hs.cell 2
            have c3 := hs.cell 3
            have c4 := hs.cell 4
            have c5 := hs.cell 5
            have c6 := hs.cell 6
            have c7 := hs.cell 7
            have c8 := hs.cell 8
            have het := says_et hs H0.out.2.1 H0.out.2.2.1
            simp only [nodeCells, List.getElem?_toArray, List.getElem?_cons_zero, List.getElem?_cons_succ] at c0 c1 c2 c3 c4 c5 c6 c7 c8
            have herr := cur_err_z c wr.drew l _ false _ (CurAt.heap hs.cur rfl) ((het.heap rfl).mono (fun h => H0.out.2.2.2 (by rw [readM_rest H2.out.2 (by have h1 := Hlf.out.2; have h2 := Hbig.out; omega) Hx.out j s5 H5.out.2, hend, if_pos h]; rfl)))
            obtain ⟨B, hB⟩ : ∃ B, B = s.bad := ⟨_, rfl⟩
            rw [← hB] at herr hend
            obtain ⟨E, hE⟩ : ∃ E : Int, E = if B = true then 3 else 0 := ⟨_, rfl⟩
            rw [← hE] at herr
            have hE0 : (E == 0) = !B := by rw [hE]; cases B <;> rfl
            clear hE
            have HB := hid hB
            clear hB
            have Herr := hid herr
            clear herr
            have Hs := hid (And.intro hs (And.intro het hend))
            clear hs het hend
            obtain ⟨P, hP⟩ : ∃ P, P = decide (0 < n') := ⟨_, rfl⟩
            rw [← hP] at Hs Hk c7
            have HP := hid hP
            clear hP
            go_wp2_with fail
            go_region_with (first | (go_at_call 121; (with_reducible refine Herr.out.mono ?_); rintro e w4 ⟨rfl, hb⟩; have hs4 := (Hs.out.1.heap (W' := wr.drew) rfl rfl rfl rfl).below hb; have k0 : w4.cell? ⟨X, 0, none⟩ = _ := hs4.cell 0; have k1 : w4.cell? ⟨X, 1, none⟩ = _ := hs4.cell 1; have k2 : w4.cell? ⟨X, 2, none⟩ = _ := hs4.cell 2; have k3 : w4.cell? ⟨X, 3, none⟩ = _ := hs4.cell 3; have k4 : w4.cell? ⟨X, 4, none⟩ = _ := hs4.cell 4; have k5 : w4.cell? ⟨X, 5, none⟩ = _ := hs4.cell 5; have k6 : w4.cell? ⟨X, 6, none⟩ = _ := hs4.cell 6; have k7 : w4.cell? ⟨X, 7, none⟩ = _ := hs4.cell 7; have k8 : w4.cell? ⟨X, 8, none⟩ = _ := hs4.cell 8; have kz := hs4.own; simp only [nodeCells, List.getElem?_toArray, List.getElem?_cons_zero, List.getElem?_cons_succ] at k0 k1 k2 k3 k4 k5 k6 k7 k8; have H9 := hid (And.intro hs4 (And.intro ((Hk.out.heap (W' := wr.drew) rfl rfl rfl rfl).below hb) hb)); clear hs4 hb))
            all_goals
              go_wp2_with fail
              refine bodyPost_ret (v := .tuple #[.agg (nodeCells x P (.slice kp acc.length kc)), .bool (!B)]) (by simp [results, Tryz.results109, go_sem, nodeCells, k0, k1, k2, k3, k4, k5, k6, k7, k8]) rfl ?_
              have h9 := H9.out.2.1.again
              refine ⟨_, !B, rfl, ⟨_, h9.cur, fun hb => by rw [← HB.out]; simpa using hb⟩, h9.grown, x, P, _, rfl, ⟨_, _, _, rfl⟩, ?_⟩
              rw [readM_rest H2.out.2 (by have h1 := Hlf.out.2; have h2 := Hbig.out; omega) Hx.out j s5 H5.out.2, Hs.out.2.2]
              cases B with
              | true => rfl
              | false => exact ⟨rfl, rfl, HP.out, h9.own⟩
end Go.Proofs.YthhjdkcnkdffcaaGreat.Eb
