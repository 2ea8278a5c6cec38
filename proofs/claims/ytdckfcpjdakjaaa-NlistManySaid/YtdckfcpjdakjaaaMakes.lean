/- The walk of NlistMakes. -/
import Derived.Test.YtdckfcpjdakjaaaRefMake
import Derived.Test.YtdckfcpjdakjaaaOpenL
import Derived.Test.YtdckfcpjdakjaaaKnown
namespace Go.Proofs.Ytdckfcpjdakjaaa
set_option linter.unusedSimpArgs false
set_option linter.unusedVariables false
open Go.RowKit Go.Maps

theorem makeM_ok {l : List Sym} {T N : List UInt8} (h : makeM l = (T, N, 0)) : l.any (fun s => !mayM s) = false ∧ l.length ≤ 4096 ∧ N.length ≤ 1048576 ∧ (l.map Sym.name).Nodup ∧ T = (tabN l).1 ∧ N = (tabN l).2 := by
  unfold makeM at h
  cases h1 : l.any (fun s => !mayM s) with
  | true => rw [h1, if_pos rfl] at h; cases h
  | false =>
    rw [h1, if_neg (by simp)] at h
    by_cases h2 : 4096 < l.length ∨ 1048576 < (tabN l).2.length
    · rw [if_pos h2] at h; cases h
    · rw [if_neg h2] at h
      cases h3 : twiceM l with
      | true => rw [h3, if_pos rfl] at h; cases h
      | false =>
        rw [h3, if_neg (by simp)] at h
        cases h
        refine ⟨rfl, by omega, by omega, ?_, rfl, rfl⟩
        unfold twiceM at h3
        simpa using h3

theorem makeM_err {l : List Sym} {T N : List UInt8} {e : Nat} (h : makeM l = (T, N, e)) (he : e ≠ 0) : T = [] ∧ N = [] := by
  unfold makeM at h
  cases h1 : l.any (fun s => !mayM s) with
  | true => rw [h1, if_pos rfl] at h; cases h; exact ⟨rfl, rfl⟩
  | false =>
    rw [h1, if_neg (by simp)] at h
    by_cases h2 : 4096 < l.length ∨ 1048576 < (tabN l).2.length
    · rw [if_pos h2] at h; cases h; exact ⟨rfl, rfl⟩
    · rw [if_neg h2] at h
      cases h3 : twiceM l with
      | true => rw [h3, if_pos rfl] at h; cases h; exact ⟨rfl, rfl⟩
      | false => rw [h3, if_neg (by simp)] at h; cases h; exact absurd rfl he

theorem makeM_told {l : List Sym} {T N : List UInt8} (h : makeM l = (T, N, 0)) (hv : ∀ s ∈ l, s.val < 2 ^ 64) : tableM T N 255 = (l, 0) := by
  obtain ⟨h1, h2, h3, h4, rfl, rfl⟩ := makeM_ok h
  refine tableM_made l hv h h1 h2 (by omega) h4 255 (fun s hs => ?_)
  have : mayM s = true := by
    cases hm : mayM s with
    | true => rfl
    | false =>
      have : l.any (fun s => !mayM s) = true := List.any_eq_true.2 ⟨s, hs, by simp [hm]⟩
      rw [h1] at this; cases this
  exact .inl (mayM_inv this).2.2

theorem makeM_len {l : List Sym} {T N : List UInt8} {e : Nat} (h : makeM l = (T, N, e)) (hl : l.length ≤ 5000) : T.length ≤ 80000 ∧ N.length ≤ 1048576 := by
  by_cases he : e = 0
  · subst he
    obtain ⟨h1, h2, h3, h4, rfl, rfl⟩ := makeM_ok h
    rw [tabN_len1]
    exact ⟨by omega, h3⟩
  · obtain ⟨rfl, rfl⟩ := makeM_err h he
    exact ⟨by simp, by simp⟩

set_option maxRecDepth 100000 in
set_option maxHeartbeats 4000000 in
theorem nlist_makes (w : World) (p : Option Addr) (n cap : Nat) (sections : Int) (hs : ∃ l, SN w (.slice p n cap) l ∧ ∀ s ∈ l, SymIn s.sect s.val) :
    Calls Try.prog 6 #[.slice p n cap, .int .i64 sections] w fun e w' => e = .returned (.bool true) ∧ Below w.heap.size w w' := by
  obtain ⟨l, hsn, hin⟩ := hs
  obtain rfl : l.length = n := hsn.len.1
  have hfew := law_few w p cap l hsn
  cases hf : fewM l 60 with
  | false =>
    rw [hf] at hfew
    have Hf := hid hfew
    clear hsn hin hf hfew
    go_enter Try.func6, Try.ntmps6
    go_wp2_with fail
    refine Hf.out.mono ?_
    rintro e w' ⟨rfl, rfl⟩
    go_wp2_with fail
    refine (nl_known _).mono ?_
    rintro e w5 ⟨rfl, hb5⟩
    have H5 := hid hb5
    clear hb5
    go_wp2
    go_ret
    exact ⟨rfl, H5.out⟩
  | true =>
    rw [hf] at hfew
    have hl60 : l.length ≤ 60 := by
      unfold fewM at hf
      rw [Bool.and_eq_true] at hf
      exact of_decide_eq_true hf.2
    have hss := hsn.ss (by omega)
    have hvv : ∀ s ∈ l, s.val < 2 ^ 64 := fun s hs => (hin s hs).2
    obtain ⟨T, N, er, hM⟩ : ∃ T N er, makeM l = (T, N, er) := ⟨_, _, _, rfl⟩
    obtain ⟨hTl, hNl⟩ := makeM_len hM (by omega)
    have HM := hid (And.intro hM (And.intro hss hvv))
    have Hf := hid hfew
    clear hsn hin hf hfew hss hvv hM
    go_enter Try.func6, Try.ntmps6
    go_wp2_with fail
    refine Hf.out.mono ?_
    rintro e w' ⟨rfl, rfl⟩
    go_wp2_with fail
    have hc := nl_make w p cap l HM.out.2.1 (by omega) HM.out.2.2
    rw [HM.out.1] at hc
    refine hc.mono ?_
    clear hc
    rintro e w1 ⟨v1, v2, rfl, ho1, ho2, hb1⟩
    simp only at ho1 ho2
    have hz1 := hb1.size
    have H1 := hid (And.intro ho1 (And.intro ho2 hb1))
    obtain ⟨a1, c1, rfl⟩ := ho1.form
    obtain ⟨a2, c2, rfl⟩ := ho2.form
    clear ho1 ho2 hb1
    go_wp2_with fail
    have hc := ref_make w1 p cap l (HM.out.2.1.below H1.out.2.2) (by omega) HM.out.2.2
    rw [HM.out.1] at hc
    refine hc.mono ?_
    clear hc
    rintro e w2 ⟨v3, v4, rfl, ho3, ho4, hb2⟩
    simp only at ho3 ho4
    have hz2 := hb2.size
    obtain ⟨a3, c3, rfl⟩ := ho3.form
    obtain ⟨a4, c4, rfl⟩ := ho4.form
    have b1 := (H1.out.1.below hb2).bs (by omega)
    have b2 := (H1.out.2.1.below hb2).bs (by omega)
    have b3 := ho3.bs (by omega)
    have b4 := ho4.bs (by omega)
    have k1 := run_toString (P := Try.prog) _ _ _ un_bs8 un_u8 un_str b1
    have k2 := run_toString (P := Try.prog) _ _ _ un_bs8 un_u8 un_str b2
    have k3 := run_toString (P := Try.prog) _ _ _ un_bs8 un_u8 un_str b3
    have k4 := run_toString (P := Try.prog) _ _ _ un_bs8 un_u8 un_str b4
    have H2 := hid (And.intro b1 (And.intro b2 (And.intro b3 (And.intro b4 (H1.out.2.2.trans (hb2.mono hz1))))))
    clear ho3 ho4 hb2 b1 b2 b3 b4
    by_cases he : er = 0
    · subst he
      have hbw := H2.out.2.2.2.2
      have Hbw := hid hbw
      clear hbw
      go_wp2_with fail
      have htold := makeM_told HM.out.1 HM.out.2.2
      have hc := nl_all w2 _ _ _ _ _ _ T N 255 H2.out.1 H2.out.2.1
      rw [htold] at hc
      refine hc.mono ?_
      clear hc htold
      rintro e w3 ⟨v5, rfl, hown5, hb3⟩
      simp only at hown5
      obtain ⟨a5, c5, rfl⟩ := ownsRow_form hown5
      have hz3 := hb3.size
      have hz02 := Hbw.out.size
      have H3 := hid (And.intro (SS.of_owns hown5 (by omega)) (And.intro (HM.out.2.1.below (Hbw.out.trans (hb3.mono hz02))) (And.intro hb3 (Hbw.out.trans (hb3.mono hz02)))))
      clear hown5 hb3 k1 k2 k3 k4
      go_wp2_with fail
      refine (ref_same _ _ _ l (by exact H3.out.1) (by exact H3.out.2.1)).mono ?_
      rintro e w4 ⟨rfl, q4, rfl⟩
      obtain ⟨M, hMT⟩ : ∃ M, M = tableM T N sections := ⟨_, rfl⟩
      have hok := tableM_ok T N sections
      rw [← hMT] at hok
      obtain ⟨L, e2⟩ := M
      have hLl : L.length ≤ 4096 := hok.2
      have HT := hid hMT
      clear hMT hok
      go_wp2_with fail
      have hc := nl_all (w3.drewN q4) _ _ _ _ _ _ T N sections (H2.out.1.below (below_drewN H3.out.2.2.1 q4)) (H2.out.2.1.below (below_drewN H3.out.2.2.1 q4))
      rw [← HT.out] at hc
      refine hc.mono ?_
      clear hc
      rintro e w5 ⟨v6, rfl, hown6, hb5⟩
      simp only at hown6
      obtain ⟨a6, c6, rfl⟩ := ownsRow_form hown6
      have hz5 : w3.heap.size ≤ w5.heap.size := hb5.size
      have hb35 : Below w3.heap.size w3 w5 := Below.trans (below_drewN (Below.refl _ _) q4) hb5
      have H5 := hid (And.intro (SS.of_owns hown6 (by omega)) (And.intro hb35 (H3.out.2.2.2.trans (hb35.mono (Nat.le_trans hz02 hz3)))))
      clear hown6 hb5 hb35
      go_wp2_with fail
      have hc := ref_all w5 _ _ _ _ _ _ T N sections ((H2.out.2.2.1.below H3.out.2.2.1).below H5.out.2.1) ((H2.out.2.2.2.1.below H3.out.2.2.1).below H5.out.2.1)
      rw [← HT.out] at hc
      refine hc.mono ?_
      clear hc
      rintro e w6 ⟨v7, rfl, hown7, hb6⟩
      simp only at hown7
      obtain ⟨a7, c7, rfl⟩ := ownsRow_form hown7
      have hz6 := hb6.size
      have H6 := hid (And.intro (H5.out.1.below hb6) (And.intro (SS.of_owns hown7 (by omega)) (H5.out.2.2.trans (hb6.mono (by omega)))))
      clear hown7 hb6
      go_wp2_with fail
      refine (ref_same _ _ _ L (by exact H6.out.1) (by exact H6.out.2.1)).mono ?_
      rintro e w7 ⟨rfl, q7, rfl⟩
      go_wp2_with fail
      refine (nl_known _).mono ?_
      rintro e w8 ⟨rfl, hb8⟩
      have hfin : Below w.heap.size w w8 := Below.trans (below_drewN H6.out.2.2 q7) (hb8.mono (show w.heap.size ≤ w6.heap.size by omega))
      have H8 := hid hfin
      clear hb8 hfin
      go_wp2
      go_ret
      exact ⟨rfl, H8.out⟩
    · have hne : ((er : Int) != 0) = true := by simp; omega
      obtain ⟨hT0, hN0⟩ := makeM_err HM.out.1 he
      have hT1 : T.length = 0 := by rw [hT0]; rfl
      have hN1 : N.length = 0 := by rw [hN0]; rfl
      have hb0 : ((T.length : Int) + (N.length : Int) == 0) = true := by rw [hT1, hN1]; rfl
      clear hT0 hN0 hT1 hN1
      have Hb := hid H2.out.2.2.2.2
      go_wp2_with fail
      refine (nl_known _).mono ?_
      rintro e w8 ⟨rfl, hb8⟩
      have H8 := hid (Hb.out.trans (hb8.mono Hb.out.size))
      clear hb8
      go_wp2
      go_ret
      exact ⟨rfl, H8.out⟩

end Go.Proofs.Ytdckfcpjdakjaaa
