/- What is said of a name, read where the listed variable may be anything, as long as the reading does not fail. -/
import Derived.Test.YthhjdkcnkdffcaaGreatZEbA
import Derived.Test.YthhjdkcnkdffcaaGreatZSays
namespace Go.Proofs.YthhjdkcnkdffcaaGreat.Eb
set_option linter.unusedSimpArgs false
set_option linter.unusedVariables false
open Go.RowKit
theorem numC_stays {l : List UInt8} {s s' : Cu} {n : Nat} (h : numC l s = (n, s')) (hb : s.bad = true) : s'.bad = true := by
  obtain ⟨k, f⟩ := s
  obtain rfl : f = true := hb
  rw [numC_bad] at h
  cases h; rfl
theorem textC_stays {l : List UInt8} {m : Nat} {s s' : Cu} {t : List UInt8} (h : textC l m s = (t, s')) (hb : s.bad = true) : s'.bad = true := by
  obtain ⟨k, f⟩ := s
  obtain rfl : f = true := hb
  rw [textC_bad] at h
  cases h; rfl
theorem says_bad1 {l : List UInt8} {s s1 : Cu} {fl : Nat} (h : numC l s = (fl, s1)) (hb : s1.bad = true) : (saysC l s).2.2.bad = true := by
  unfold saysC
  rw [h]
  dsimp only
  obtain ⟨⟨o, s2⟩, h2⟩ : ∃ p, numC l s1 = p := ⟨_, rfl⟩
  have hb2 := numC_stays h2 hb
  obtain ⟨⟨t, s3⟩, h3⟩ : ∃ p, textC l 255 s2 = p := ⟨_, rfl⟩
  have hb3 := textC_stays h3 hb2
  obtain ⟨⟨r, s4⟩, h4⟩ : ∃ p, numC l s2 = p := ⟨_, rfl⟩
  have hb4 := numC_stays h4 hb2
  rw [h2]
  dsimp only
  rw [h3, h4]
  dsimp only
  split
  · exact hb3
  · split
    · exact hb2
    · split
      · exact hb2
      · split
        · exact hb4
        · exact hb
theorem says_bad0 {l : List UInt8} {s : Cu} (hb : s.bad = true) : (saysC l s).2.2.bad = true := by
  obtain ⟨⟨fl, s1⟩, h⟩ : ∃ p, numC l s = p := ⟨_, rfl⟩
  exact says_bad1 h (numC_stays h hb)
theorem says_bad2 {l : List UInt8} {s s1 s2 : Cu} {fl v : Nat} (h : numC l s = (fl, s1)) (hf : bareF fl = 16) (h2 : numC l s1 = (v, s2)) (hb : s2.bad = true) : (saysC l s).2.2.bad = true := by
  unfold saysC
  rw [h]
  dsimp only
  obtain ⟨⟨r, s4⟩, h4⟩ : ∃ p, numC l s2 = p := ⟨_, rfl⟩
  rw [if_neg (by omega), if_neg (by omega), if_neg (by omega), if_pos hf, h2]
  dsimp only
  rw [h4]
  exact numC_stays h4 hb
theorem says_et {Bad : Prop} {w0 W : World} {X c : Nat} {l : List UInt8} {s : Cu} {t : TypeId} {vs : Array Value} (h : SaysAt w0 W X c l s t vs) (het : EZ Bad w0) (hcg : Bad → some c ≠ some 0) : EZ Bad W := het.grown h.grown hcg
set_option maxHeartbeats 2000000 in
theorem trie_says {Bad : Prop} (w : World) (c : Nat) (l : List UInt8) (s : Cu) (hl : l.length ≤ 140737488355328) (hne : l ≠ []) (hcu : CuAt w c l s) (het : EZ Bad w) (hbd : (saysC l s).2.2.bad = true → Bad) :
    Calls Tryz.prog 124 #[.pointer (some ⟨c, 0, none⟩)] w fun e w' =>
      ∃ x b s', saysC l s = (x, b, s') ∧ e = .returned (.tuple #[.agg x.cells.toArray, .bool b]) ∧ CuAt w' c l s' ∧ w.grownBy w' (some c) := by
  have hcg := het.ne hcu
  have hclt := CurAt.lt hcu
  have h0 : SaysAt w (w.alloc (.cells #[.string ⟨#[]⟩, .int .i64 0, .bool false, .int .u64 0, .int .u64 0, .int .u64 0, .string ⟨#[]⟩] 25)) w.heap.size c l s 25 #[.string ⟨#[]⟩, .int .i64 0, .bool false, .int .u64 0, .int .u64 0, .int .u64 0, .string ⟨#[]⟩] :=
    ⟨heap_alloc_new w _, CurAt.below hcu ((Below.refl _ _).alloc (Nat.le_refl _) _), World.grownBy_alloc w _ _, Nat.le_refl _, by omega⟩
  have H0 := hid (And.intro h0 (And.intro het (And.intro hcg hbd)))
  obtain ⟨X, hX⟩ : ∃ X, X = w.heap.size := ⟨_, rfl⟩
  have HX := hid hX
  clear hcu het hcg hclt h0 hbd
  go_enter Tryz.func124, Tryz.ntmps124
  go_wp2_with fail
  refine (leb_uleb _ c l s hl H0.out.1.cur ((says_et H0.out.1 H0.out.2.1 H0.out.2.2.1).mono (fun h => H0.out.2.2.2 (says_bad0 h)))).mono ?_
  rintro e w1 ⟨fl, s1, hn1, rfl, hc1, hg1⟩
  have h1 := H0.out.1.call hc1 hg1
  have hf := h1.own 2
  have hc2 := h1.cell 2
  rw [← hX] at h1 hf hc2
  have hfl := numC_lt hn1
  have hA := and4 fl hfl
  have hB := andNot4 fl hfl
  obtain ⟨wk, hwk⟩ : ∃ wk, wk = (fl / 4 % 2 == 1) := ⟨_, rfl⟩
  obtain ⟨bf, hbf⟩ : ∃ bf, bf = bareF fl := ⟨_, rfl⟩
  rw [← hwk] at hA
  rw [← hbf] at hB
  have h2 := h1.set 2 (.bool wk) _ rfl (fun n h => by cases h)
  have H2 := hid (And.intro h2 (And.intro hn1 (And.intro hwk hbf)))
  rw [← hX]
  dsimp at hc2
  clear hc1 hg1 h1 h2 hn1 hwk hbf hX
  by_cases h8 : bf = 8
  · have hb8 : ((bf : Int) == 8) = true := by rw [beq_iff_eq]; omega
    have hs8 := hid h8
    clear h8
    go_wp2_with fail
    refine (leb_uleb _ c l s1 hl H2.out.1.cur ((says_et H2.out.1 H0.out.2.1 H0.out.2.2.1).mono (fun h => H0.out.2.2.2 (says_bad1 H2.out.2.1 h)))).mono ?_
    rintro e w2 ⟨o, s2, hn2, rfl, hc2', hg2⟩
    have H3 := hid (And.intro (H2.out.1.call hc2' hg2) hn2)
    clear hc2' hg2 hn2
    go_wp2_with fail
    refine (cur_text c w2 l s2 H3.out.1.cur hne).mono ?_
    rintro e w3 ⟨t, s3, ht, rfl, hc3, hg3⟩
    have h4 := H3.out.1.call hc3 hg3
    have hz := h4.own
    have d1 := h4.cell 1
    have d5 := h4.cell 5
    have d6 := h4.cell 6
    simp at d1 d5 d6
    have H4 := hid (And.intro h4 ht)
    clear hc3 hg3 h4 ht
    go_wp2_with fail
    obtain ⟨W, hW⟩ : ∃ W, W = (((w3.setCell ⟨X, 1, none⟩ (.int .i64 3)).setCell ⟨X, 5, none⟩ (.int .u64 (o : Int))).setCell ⟨X, 6, none⟩ (.string (mkS t))) := ⟨_, rfl⟩
    rw [← hW]
    have hs := ((H4.out.1.set 1 (.int .i64 3) _ rfl (fun n h => by cases h)).set 5 (.int .u64 (o : Int)) _ rfl (fun n h => by cases h)).set 6 (.string (mkS t)) _ rfl (fun n h => by cases h)
    rw [← hW] at hs
    obtain ⟨V, hV⟩ : ∃ V : Exp, V = ⟨[], 3, wk, 0, 0, o, t⟩ := ⟨_, rfl⟩
    have hs' : SaysAt w W X c l s3 25 #[.string (mkS V.name), .int .i64 V.kind, .bool V.weak, .int .u64 (V.value : Int), .int .u64 (V.resolver : Int), .int .u64 (V.ordinal : Int), .string (mkS V.other)] := by rw [hV]; exact hs
    have c0 := hs'.cell 0
    have c1 := hs'.cell 1
    have c2 := hs'.cell 2
    have c3 := hs'.cell 3
    have c4 := hs'.cell 4
    have c5 := hs'.cell 5
    have c6 := hs'.cell 6
    have het := says_et hs' H0.out.2.1 H0.out.2.2.1
    simp only [List.getElem?_toArray, List.getElem?_cons_zero, List.getElem?_cons_succ] at c0 c1 c2 c3 c4 c5 c6
    have herr := cur_err_z c W.drew l _ false _ (CurAt.heap hs'.cur rfl) ((het.heap rfl).mono (fun h => H0.out.2.2.2 (by unfold saysC; rw [H2.out.2.1]; dsimp only; rw [← H2.out.2.2.2, if_pos hs8.out, H3.out.2]; dsimp only; rw [H4.out.2]; exact h)))
    obtain ⟨B, hB⟩ : ∃ B, B = s3.bad := ⟨_, rfl⟩
    rw [← hB] at herr
    obtain ⟨E, hE⟩ : ∃ E : Int, E = if B = true then 3 else 0 := ⟨_, rfl⟩
    rw [← hE] at herr
    have hE0 : (E == 0) = !B := by rw [hE]; cases B <;> rfl
    clear hE
    have HB := hid hB
    clear hB
    have Herr := hid herr
    clear herr
    have Hs := hid (And.intro hs' (And.intro het hV))
    clear hs hs' het hV hW
    clear d1 d5 d6 hz
    go_region_with (first | (go_at_call 121; (with_reducible refine Herr.out.mono ?_); rintro e w4 ⟨rfl, hb⟩; have hs4 := (Hs.out.1.heap (W' := W.drew) rfl rfl rfl rfl).below hb; have k0 : w4.cell? ⟨X, 0, none⟩ = _ := hs4.cell 0; have k1 : w4.cell? ⟨X, 1, none⟩ = _ := hs4.cell 1; have k2 : w4.cell? ⟨X, 2, none⟩ = _ := hs4.cell 2; have k3 : w4.cell? ⟨X, 3, none⟩ = _ := hs4.cell 3; have k4 : w4.cell? ⟨X, 4, none⟩ = _ := hs4.cell 4; have k5 : w4.cell? ⟨X, 5, none⟩ = _ := hs4.cell 5; have k6 : w4.cell? ⟨X, 6, none⟩ = _ := hs4.cell 6; have kz := hs4.own; simp only [List.getElem?_toArray, List.getElem?_cons_zero, List.getElem?_cons_succ] at k0 k1 k2 k3 k4 k5 k6; have H5 := hid hs4; clear hs4 hb))
    all_goals
      go_wp2_with fail
      refine bodyPost_ret (v := .tuple #[.agg V.cells.toArray, .bool (!B)]) (by simp [results, Tryz.results124, go_sem, Exp.cells, k0, k1, k2, k3, k4, k5, k6]) rfl ?_
      refine ⟨V, !B, s3, ?_, rfl, ?_⟩
      · rw [Hs.out.2.2]
        unfold saysC
        rw [H2.out.2.1]; dsimp only; rw [← H2.out.2.2.2, if_pos hs8.out, H3.out.2]; dsimp only; rw [H4.out.2]; dsimp only; rw [← H2.out.2.2.1, ← HB.out]
      · have h7 := H5.out.again
        exact ⟨h7.cur, h7.grown⟩
  · have hb8 : ((bf : Int) == 8) = false := by rw [beq_eq_false_iff_ne]; omega
    have hs8 := hid h8
    clear h8
    by_cases h0 : bf = 0
    · have hb0 : ((bf : Int) == 0) = true := by rw [beq_iff_eq]; omega
      have hs0 := hid h0
      clear h0
      go_wp2_with fail
      refine (leb_uleb _ c l s1 hl H2.out.1.cur ((says_et H2.out.1 H0.out.2.1 H0.out.2.2.1).mono (fun h => H0.out.2.2.2 (says_bad1 H2.out.2.1 h)))).mono ?_
      rintro e w2 ⟨o, s2, hn2, rfl, hc2', hg2⟩
      have h4 := H2.out.1.call hc2' hg2
      have hz := h4.own
      have d1 := h4.cell 1
      have d3 := h4.cell 3
      simp at d1 d3
      have H4 := hid (And.intro h4 hn2)
      clear hc2' hg2 h4 hn2
      go_wp2_with fail
      obtain ⟨W, hW⟩ : ∃ W, W = ((w2.setCell ⟨X, 1, none⟩ (.int .i64 1)).setCell ⟨X, 3, none⟩ (.int .u64 (o : Int))) := ⟨_, rfl⟩
      rw [← hW]
      have hs := (H4.out.1.set 1 (.int .i64 1) _ rfl (fun n h => by cases h)).set 3 (.int .u64 (o : Int)) _ rfl (fun n h => by cases h)
      rw [← hW] at hs
      obtain ⟨V, hV⟩ : ∃ V : Exp, V = ⟨[], 1, wk, o, 0, 0, []⟩ := ⟨_, rfl⟩
      have hs' : SaysAt w W X c l s2 25 #[.string (mkS V.name), .int .i64 V.kind, .bool V.weak, .int .u64 (V.value : Int), .int .u64 (V.resolver : Int), .int .u64 (V.ordinal : Int), .string (mkS V.other)] := by rw [hV]; exact hs
      have c0 := hs'.cell 0
      have c1 := hs'.cell 1
      have c2 := hs'.cell 2
      have c3 := hs'.cell 3
      have c4 := hs'.cell 4
      have c5 := hs'.cell 5
      have c6 := hs'.cell 6
      have het := says_et hs' H0.out.2.1 H0.out.2.2.1
      simp only [List.getElem?_toArray, List.getElem?_cons_zero, List.getElem?_cons_succ] at c0 c1 c2 c3 c4 c5 c6
      have herr := cur_err_z c W.drew l _ false _ (CurAt.heap hs'.cur rfl) ((het.heap rfl).mono (fun h => H0.out.2.2.2 (by unfold saysC; rw [H2.out.2.1]; dsimp only; rw [← H2.out.2.2.2, if_neg hs8.out, if_pos hs0.out, H4.out.2]; exact h)))
      obtain ⟨B, hB⟩ : ∃ B, B = s2.bad := ⟨_, rfl⟩
      rw [← hB] at herr
      obtain ⟨E, hE⟩ : ∃ E : Int, E = if B = true then 3 else 0 := ⟨_, rfl⟩
      rw [← hE] at herr
      have hE0 : (E == 0) = !B := by rw [hE]; cases B <;> rfl
      clear hE
      have HB := hid hB
      clear hB
      have Herr := hid herr
      clear herr
      have Hs := hid (And.intro hs' (And.intro het hV))
      clear hs hs' het hV hW
      clear d1 d3 hz
      go_region_with (first | (go_at_call 121; (with_reducible refine Herr.out.mono ?_); rintro e w4 ⟨rfl, hb⟩; have hs4 := (Hs.out.1.heap (W' := W.drew) rfl rfl rfl rfl).below hb; have k0 : w4.cell? ⟨X, 0, none⟩ = _ := hs4.cell 0; have k1 : w4.cell? ⟨X, 1, none⟩ = _ := hs4.cell 1; have k2 : w4.cell? ⟨X, 2, none⟩ = _ := hs4.cell 2; have k3 : w4.cell? ⟨X, 3, none⟩ = _ := hs4.cell 3; have k4 : w4.cell? ⟨X, 4, none⟩ = _ := hs4.cell 4; have k5 : w4.cell? ⟨X, 5, none⟩ = _ := hs4.cell 5; have k6 : w4.cell? ⟨X, 6, none⟩ = _ := hs4.cell 6; have kz := hs4.own; simp only [List.getElem?_toArray, List.getElem?_cons_zero, List.getElem?_cons_succ] at k0 k1 k2 k3 k4 k5 k6; have H5 := hid hs4; clear hs4 hb))
      all_goals
        go_wp2_with fail
        refine bodyPost_ret (v := .tuple #[.agg V.cells.toArray, .bool (!B)]) (by simp [results, Tryz.results124, go_sem, Exp.cells, k0, k1, k2, k3, k4, k5, k6]) rfl ?_
        refine ⟨V, !B, s2, ?_, rfl, ?_⟩
        · rw [Hs.out.2.2]
          unfold saysC
          rw [H2.out.2.1]; dsimp only; rw [← H2.out.2.2.2, if_neg hs8.out, if_pos hs0.out, H4.out.2]; dsimp only; rw [← H2.out.2.2.1, ← HB.out]
        · have h7 := H5.out.again
          exact ⟨h7.cur, h7.grown⟩
    · have hb0 : ((bf : Int) == 0) = false := by rw [beq_eq_false_iff_ne]; omega
      have hs0 := hid h0
      clear h0
      by_cases h2 : bf = 2
      · have hb2 : ((bf : Int) == 2) = true := by rw [beq_iff_eq]; omega
        have hs2 := hid h2
        clear h2
        go_wp2_with fail
        refine (leb_uleb _ c l s1 hl H2.out.1.cur ((says_et H2.out.1 H0.out.2.1 H0.out.2.2.1).mono (fun h => H0.out.2.2.2 (says_bad1 H2.out.2.1 h)))).mono ?_
        rintro e w2 ⟨o, s2, hn2, rfl, hc2', hg2⟩
        have h4 := H2.out.1.call hc2' hg2
        have hz := h4.own
        have d1 := h4.cell 1
        have d3 := h4.cell 3
        simp at d1 d3
        have H4 := hid (And.intro h4 hn2)
        clear hc2' hg2 h4 hn2
        go_wp2_with fail
        obtain ⟨W, hW⟩ : ∃ W, W = ((w2.setCell ⟨X, 1, none⟩ (.int .i64 2)).setCell ⟨X, 3, none⟩ (.int .u64 (o : Int))) := ⟨_, rfl⟩
        rw [← hW]
        have hs := (H4.out.1.set 1 (.int .i64 2) _ rfl (fun n h => by cases h)).set 3 (.int .u64 (o : Int)) _ rfl (fun n h => by cases h)
        rw [← hW] at hs
        obtain ⟨V, hV⟩ : ∃ V : Exp, V = ⟨[], 2, wk, o, 0, 0, []⟩ := ⟨_, rfl⟩
        have hs' : SaysAt w W X c l s2 25 #[.string (mkS V.name), .int .i64 V.kind, .bool V.weak, .int .u64 (V.value : Int), .int .u64 (V.resolver : Int), .int .u64 (V.ordinal : Int), .string (mkS V.other)] := by rw [hV]; exact hs
        have c0 := hs'.cell 0
        have c1 := hs'.cell 1
        have c2 := hs'.cell 2
        have c3 := hs'.cell 3
        have c4 := hs'.cell 4
        have c5 := hs'.cell 5
        have c6 := hs'.cell 6
        have het := says_et hs' H0.out.2.1 H0.out.2.2.1
        simp only [List.getElem?_toArray, List.getElem?_cons_zero, List.getElem?_cons_succ] at c0 c1 c2 c3 c4 c5 c6
        have herr := cur_err_z c W.drew l _ false _ (CurAt.heap hs'.cur rfl) ((het.heap rfl).mono (fun h => H0.out.2.2.2 (by unfold saysC; rw [H2.out.2.1]; dsimp only; rw [← H2.out.2.2.2, if_neg hs8.out, if_neg hs0.out, if_pos hs2.out, H4.out.2]; exact h)))
        obtain ⟨B, hB⟩ : ∃ B, B = s2.bad := ⟨_, rfl⟩
        rw [← hB] at herr
        obtain ⟨E, hE⟩ : ∃ E : Int, E = if B = true then 3 else 0 := ⟨_, rfl⟩
        rw [← hE] at herr
        have hE0 : (E == 0) = !B := by rw [hE]; cases B <;> rfl
        clear hE
        have HB := hid hB
        clear hB
        have Herr := hid herr
        clear herr
        have Hs := hid (And.intro hs' (And.intro het hV))
        clear hs hs' het hV hW
        clear d1 d3 hz
        go_region_with (first | (go_at_call 121; (with_reducible refine Herr.out.mono ?_); rintro e w4 ⟨rfl, hb⟩; have hs4 := (Hs.out.1.heap (W' := W.drew) rfl rfl rfl rfl).below hb; have k0 : w4.cell? ⟨X, 0, none⟩ = _ := hs4.cell 0; have k1 : w4.cell? ⟨X, 1, none⟩ = _ := hs4.cell 1; have k2 : w4.cell? ⟨X, 2, none⟩ = _ := hs4.cell 2; have k3 : w4.cell? ⟨X, 3, none⟩ = _ := hs4.cell 3; have k4 : w4.cell? ⟨X, 4, none⟩ = _ := hs4.cell 4; have k5 : w4.cell? ⟨X, 5, none⟩ = _ := hs4.cell 5; have k6 : w4.cell? ⟨X, 6, none⟩ = _ := hs4.cell 6; have kz := hs4.own; simp only [List.getElem?_toArray, List.getElem?_cons_zero, List.getElem?_cons_succ] at k0 k1 k2 k3 k4 k5 k6; have H5 := hid hs4; clear hs4 hb))
        all_goals
          go_wp2_with fail
          refine bodyPost_ret (v := .tuple #[.agg V.cells.toArray, .bool (!B)]) (by simp [results, Tryz.results124, go_sem, Exp.cells, k0, k1, k2, k3, k4, k5, k6]) rfl ?_
          refine ⟨V, !B, s2, ?_, rfl, ?_⟩
          · rw [Hs.out.2.2]
            unfold saysC
            rw [H2.out.2.1]; dsimp only; rw [← H2.out.2.2.2, if_neg hs8.out, if_neg hs0.out, if_pos hs2.out, H4.out.2]; dsimp only; rw [← H2.out.2.2.1, ← HB.out]
          · have h7 := H5.out.again
            exact ⟨h7.cur, h7.grown⟩
      · have hb2 : ((bf : Int) == 2) = false := by rw [beq_eq_false_iff_ne]; omega
        have hs2 := hid h2
        clear h2
        by_cases h16 : bf = 16
        · have hb16 : ((bf : Int) == 16) = true := by rw [beq_iff_eq]; omega
          have hs16 := hid h16
          clear h16
          go_wp2_with fail
          refine (leb_uleb _ c l s1 hl H2.out.1.cur ((says_et H2.out.1 H0.out.2.1 H0.out.2.2.1).mono (fun h => H0.out.2.2.2 (says_bad1 H2.out.2.1 h)))).mono ?_
          rintro e w2 ⟨o, s2, hn2, rfl, hc2', hg2⟩
          have H3 := hid (And.intro (H2.out.1.call hc2' hg2) hn2)
          clear hc2' hg2 hn2
          go_wp2_with fail
          refine (leb_uleb _ c l s2 hl H3.out.1.cur ((says_et H3.out.1 H0.out.2.1 H0.out.2.2.1).mono (fun h => H0.out.2.2.2 (says_bad2 H2.out.2.1 (by rw [← H2.out.2.2.2]; exact hs16.out) H3.out.2 h)))).mono ?_
          rintro e w3 ⟨r, s3, hn3, rfl, hc3, hg3⟩
          have h4 := H3.out.1.call hc3 hg3
          have hz := h4.own
          have d1 := h4.cell 1
          have d3 := h4.cell 3
          have d4 := h4.cell 4
          simp at d1 d3 d4
          have H4 := hid (And.intro h4 hn3)
          clear hc3 hg3 h4 hn3
          go_wp2_with fail
          obtain ⟨W, hW⟩ : ∃ W, W = (((w3.setCell ⟨X, 1, none⟩ (.int .i64 4)).setCell ⟨X, 3, none⟩ (.int .u64 (o : Int))).setCell ⟨X, 4, none⟩ (.int .u64 (r : Int))) := ⟨_, rfl⟩
          rw [← hW]
          have hs := ((H4.out.1.set 1 (.int .i64 4) _ rfl (fun n h => by cases h)).set 3 (.int .u64 (o : Int)) _ rfl (fun n h => by cases h)).set 4 (.int .u64 (r : Int)) _ rfl (fun n h => by cases h)
          rw [← hW] at hs
          obtain ⟨V, hV⟩ : ∃ V : Exp, V = ⟨[], 4, wk, o, r, 0, []⟩ := ⟨_, rfl⟩
          have hs' : SaysAt w W X c l s3 25 #[.string (mkS V.name), .int .i64 V.kind, .bool V.weak, .int .u64 (V.value : Int), .int .u64 (V.resolver : Int), .int .u64 (V.ordinal : Int), .string (mkS V.other)] := by rw [hV]; exact hs
          have c0 := hs'.cell 0
          have c1 := hs'.cell 1
          have c2 := hs'.cell 2
          have c3 := hs'.cell 3
          have c4 := hs'.cell 4
          have c5 := hs'.cell 5
          have c6 := hs'.cell 6
          have het := says_et hs' H0.out.2.1 H0.out.2.2.1
          simp only [List.getElem?_toArray, List.getElem?_cons_zero, List.getElem?_cons_succ] at c0 c1 c2 c3 c4 c5 c6
          have herr := cur_err_z c W.drew l _ false _ (CurAt.heap hs'.cur rfl) ((het.heap rfl).mono (fun h => H0.out.2.2.2 (by unfold saysC; rw [H2.out.2.1]; dsimp only; rw [← H2.out.2.2.2, if_neg hs8.out, if_neg hs0.out, if_neg hs2.out, if_pos hs16.out, H3.out.2]; dsimp only; rw [H4.out.2]; exact h)))
          obtain ⟨B, hB⟩ : ∃ B, B = s3.bad := ⟨_, rfl⟩
          rw [← hB] at herr
          obtain ⟨E, hE⟩ : ∃ E : Int, E = if B = true then 3 else 0 := ⟨_, rfl⟩
          rw [← hE] at herr
          have hE0 : (E == 0) = !B := by rw [hE]; cases B <;> rfl
          clear hE
          have HB := hid hB
          clear hB
          have Herr := hid herr
          clear herr
          have Hs := hid (And.intro hs' (And.intro het hV))
          clear hs hs' het hV hW
          clear d1 d3 d4 hz
          go_region_with (first | (go_at_call 121; (with_reducible refine Herr.out.mono ?_); rintro e w4 ⟨rfl, hb⟩; have hs4 := (Hs.out.1.heap (W' := W.drew) rfl rfl rfl rfl).below hb; have k0 : w4.cell? ⟨X, 0, none⟩ = _ := hs4.cell 0; have k1 : w4.cell? ⟨X, 1, none⟩ = _ := hs4.cell 1; have k2 : w4.cell? ⟨X, 2, none⟩ = _ := hs4.cell 2; have k3 : w4.cell? ⟨X, 3, none⟩ = _ := hs4.cell 3; have k4 : w4.cell? ⟨X, 4, none⟩ = _ := hs4.cell 4; have k5 : w4.cell? ⟨X, 5, none⟩ = _ := hs4.cell 5; have k6 : w4.cell? ⟨X, 6, none⟩ = _ := hs4.cell 6; have kz := hs4.own; simp only [List.getElem?_toArray, List.getElem?_cons_zero, List.getElem?_cons_succ] at k0 k1 k2 k3 k4 k5 k6; have H5 := hid hs4; clear hs4 hb))
          all_goals
            go_wp2_with fail
            refine bodyPost_ret (v := .tuple #[.agg V.cells.toArray, .bool (!B)]) (by simp [results, Tryz.results124, go_sem, Exp.cells, k0, k1, k2, k3, k4, k5, k6]) rfl ?_
            refine ⟨V, !B, s3, ?_, rfl, ?_⟩
            · rw [Hs.out.2.2]
              unfold saysC
              rw [H2.out.2.1]; dsimp only; rw [← H2.out.2.2.2, if_neg hs8.out, if_neg hs0.out, if_neg hs2.out, if_pos hs16.out, H3.out.2]; dsimp only; rw [H4.out.2]; dsimp only; rw [← H2.out.2.2.1, ← HB.out]
            · have h7 := H5.out.again
              exact ⟨h7.cur, h7.grown⟩
        · have hb16 : ((bf : Int) == 16) = false := by rw [beq_eq_false_iff_ne]; omega
          have hs16 := hid h16
          clear h16
          have hz := H2.out.1.own
          have b0 := H2.out.1.cell 0
          have b1 := H2.out.1.cell 1
          have b3 := H2.out.1.cell 3
          have b4 := H2.out.1.cell 4
          have b5 := H2.out.1.cell 5
          have b6 := H2.out.1.cell 6
          rw [World.cell?_setCell_other _ _ _ _ (by simp)] at b0 b1 b3 b4 b5 b6
          simp at b0 b1 b3 b4 b5 b6
          simp only [World.frozen?_setCell] at hz
          go_wp2_with fail
          refine bodyPost_ret (v := .tuple #[.agg (Exp.mk [] 0 wk 0 0 0 []).cells.toArray, .bool false]) (by simp [results, Tryz.results124, go_sem, Exp.cells, mkS, b0, b1, hc2, b3, b4, b5, b6]) rfl ?_
          refine ⟨⟨[], 0, wk, 0, 0, 0, []⟩, false, s1, ?_, rfl, ?_⟩
          · unfold saysC
            rw [H2.out.2.1]; dsimp only; rw [← H2.out.2.2.2, if_neg hs8.out, if_neg hs0.out, if_neg hs2.out, if_neg hs16.out, ← H2.out.2.2.1]
          · have h7 := SaysAt.again (V := ⟨[], 0, wk, 0, 0, 0, []⟩) H2.out.1
            exact ⟨h7.cur, h7.grown⟩
end Go.Proofs.YthhjdkcnkdffcaaGreat.Eb
