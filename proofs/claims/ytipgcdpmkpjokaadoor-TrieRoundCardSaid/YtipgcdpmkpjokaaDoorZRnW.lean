/- The law TrieRound: the walk. -/
import Derived.Test.YtipgcdpmkpjokaaDoorZRnM
import Derived.Test.YtipgcdpmkpjokaaDoorZFindP
import Derived.Deep.DeepCutAuto
namespace Go.Proofs.YtipgcdpmkpjokaaDoor
set_option linter.unusedSimpArgs false
set_option linter.unusedVariables false
open Go.RowKit Go.Sort

/-- Three bytes that were just laid, as what is appended. -/
theorem src_three (w : World) {r q n : Nat} (hr : n % 128 = r) (hq : n / 128 = q) (hn : n < 16384) {B : Nat} (hB : w.heap.size = B) :
    Src Tryd.prog 1 30 (.slice (some ⟨B, 0, none⟩) 3 3) 3 (u8s [0, loB n, hiB n]) (w.alloc (.cells #[.int .u8 0, .int .u8 ((r : Int) + 128), .int .u8 (q : Int)] 5)) := by
  have hu : u8s [0, loB n, hiB n] = [.int .u8 0, .int .u8 ((r : Int) + 128), .int .u8 (q : Int)] := by
    simp only [u8s, List.map_cons, List.map_nil]
    rw [lo_nat, hi_nat hn, hr, hq]
    rfl
  rw [hu]
  exact Src.laid w Tryd.underlying30 _ 3 rfl (by simp [Value.oneCell']) (0, 0) hB

/-- Two bytes that were just laid. -/
theorem src_two (w : World) {B : Nat} (hB : w.heap.size = B) : Src Tryd.prog 1 30 (.slice (some ⟨B, 0, none⟩) 2 2) 2 (u8s [0, 1]) (w.alloc (.cells #[.int .u8 0, .int .u8 1] 5)) :=
  Src.laid w Tryd.underlying30 _ 2 rfl (by simp [u8s, Value.oneCell']) (0, 0) hB

theorem ob_two (w : World) : OB (w.alloc (.cells #[.int .u8 0, .int .u8 1] 5)) w.heap.size 5 (.slice (some ⟨w.heap.size, 0, none⟩) 2 2) [0, 1] := OB.laid w [0, 1] (by simp)

/-- What is left of a number of two bytes. -/
structure Two (n r q : Nat) : Prop where
  r_ : n % 128 = r
  q_ : n / 128 = q
  rl : r < 128
  ql : q < 128
  m1 : Int.tmod (n : Int) 128 = (r : Int)
  m2 : (n : Int) % 128 = (r : Int)
  d1 : Int.tdiv (n : Int) 128 = (q : Int)
  d2 : (n : Int) / 128 = (q : Int)
  w1 : IntKind.u8.wrap (r : Int) = (r : Int)
  w2 : IntKind.u8.wrap ((r : Int) + 128) = (r : Int) + 128
  w3 : IntKind.u8.wrap (q : Int) = (q : Int)

theorem two_of (n : Nat) (h : n < 16384) : ∃ r q, Two n r q := by
  refine ⟨n % 128, n / 128, rfl, rfl, by omega, by omega, ?_, by omega, ?_, by omega, ?_, ?_, ?_⟩
  · rw [Int.tmod_eq_emod_of_nonneg (by omega)]; omega
  · rw [Int.tdiv_eq_ediv_of_nonneg (by omega)]; omega
  · exact IntWalk.u8_in _ (by omega)
  · exact IntWalk.u8_in _ (by omega)
  · exact IntWalk.u8_in _ (by omega)

set_option maxHeartbeats 4000000 in
set_option maxRecDepth 100000 in
theorem tr_round_law (w : World) (edge : List UInt8) (back : Int) (het : ET w) :
    Calls Tryd.prog 6 #[.string (mkS edge), .int .i64 back] w (LawEnd w) := by
  by_cases hA : edge.length < 1
  · have hd1 : decide ((edge.length : Int) < 1) = true := by rw [decide_eq_true_eq]; omega
    have hd2 : decide (edge.length < 1) = true := by rw [decide_eq_true_eq]; omega
    have H := hid het
    clear het hA
    go_enter Tryd.func6, Tryd.ntmps6
    go_wp2_with fail
    refine (trie_known _ H.out).mono ?_
    rintro e w1 ⟨rfl, hb⟩
    go_wp2_with fail
    go_ret
    exact ⟨rfl, hb⟩
  have hd1 : decide ((edge.length : Int) < 1) = false := by rw [decide_eq_false_iff_not]; omega
  have hd2 : decide (edge.length < 1) = false := by rw [decide_eq_false_iff_not]; omega
  by_cases hB : 200 < edge.length
  · have hd3 : decide ((200 : Int) < (edge.length : Int)) = true := by rw [decide_eq_true_eq]; omega
    have hd4 : decide (200 < edge.length) = true := by rw [decide_eq_true_eq]; omega
    have H := hid het
    clear het hA hB
    go_enter Tryd.func6, Tryd.ntmps6
    go_wp2_with fail
    refine (trie_known _ H.out).mono ?_
    rintro e w1 ⟨rfl, hb⟩
    go_wp2_with fail
    go_ret
    exact ⟨rfl, hb⟩
  have hd3 : decide ((200 : Int) < (edge.length : Int)) = false := by rw [decide_eq_false_iff_not]; omega
  have hd4 : decide (200 < edge.length) = false := by rw [decide_eq_false_iff_not]; omega
  by_cases hC : back < 0
  · have hd5 : decide (back < 0) = true := by rw [decide_eq_true_eq]; exact hC
    have H := hid het
    clear het hA hB hC
    go_enter Tryd.func6, Tryd.ntmps6
    go_wp2_with fail
    refine (trie_known _ H.out).mono ?_
    rintro e w1 ⟨rfl, hb⟩
    go_wp2_with fail
    go_ret
    exact ⟨rfl, hb⟩
  have hd5 : decide (back < 0) = false := by rw [decide_eq_false_iff_not]; exact hC
  obtain ⟨bk, rfl⟩ : ∃ bk : Nat, back = bk := ⟨back.toNat, by omega⟩
  obtain ⟨u8i, hu8⟩ := u8row
  have H := hid (And.intro het (And.intro hu8 hA))
  have hel : edge.length ≤ 200 := by omega
  clear het hA hB hC hu8
  go_enter Tryd.func6, Tryd.ntmps6
  go_wp2_with fail
  go_loop [5] (fun i => ∃ j : Nat, j ≤ edge.length ∧ i = .int .i64 (j : Int) ∧ Aside (∀ x ∈ edge.take j, x ≠ 0)) (fun i => edge.length - (intOf i).toNat)
  case atStart => exact ⟨0, Nat.zero_le _, rfl, by intro x hx; simp at hx⟩
  case round =>
    obtain ⟨j, hj, rfl, hnz⟩ := hrel
    have Hnz := hid hnz.out
    clear hnz
    by_cases hlt : j < edge.length
    · have hltz : decide ((j : Int) < (edge.length : Int)) = true := by simp; omega
      obtain ⟨c, hc⟩ : ∃ c, edge[j]? = some c := ⟨_, List.getElem?_eq_getElem hlt⟩
      have hcg : ∀ h : j < (mkS edge).size, (mkS edge)[j]'h = c := fun h => by
        obtain ⟨h1, rfl⟩ := List.getElem?_eq_some_iff.1 hc
        rfl
      have hj0 : (0 : Int) ≤ (j : Int) := by omega
      have hjl : (j : Int) < (edge.length : Int) := by omega
      have Hc := hid hc
      by_cases hz : c = 0
      · have hq : ((c.toNat : Int) == 0) = true := by rw [hz]; rfl
        clear hc hz hlt
        go_wp2_with fail
        refine (trie_known _ H.out.1).mono ?_
        rintro e w1 ⟨rfl, hb⟩
        go_wp2_with fail
        go_ret
        exact ⟨rfl, hb⟩
      · have hq : ((c.toNat : Int) == 0) = false := by
          rw [beq_eq_false_iff_ne]; intro e; exact hz (UInt8.toNat_inj.1 (by rw [show ((0 : UInt8).toNat) = 0 from rfl]; omega))
        have hs : ∀ x ∈ edge.take (j + 1), x ≠ 0 := by
          rw [List.take_add_one, hc]
          intro x hx
          rcases List.mem_append.1 hx with h1 | h1
          · exact Hnz.out x h1
          · simp at h1; rw [h1]; exact hz
        have Hs := hid hs
        clear hc hz hs hlt
        go_wp2_with fail
        go_round
        case rel => exact ⟨j + 1, by omega, by go_num, Hs.out⟩
        case measure => simp [intOf]; omega
    · obtain rfl : j = edge.length := by omega
      have hnz2 : ∀ x ∈ edge, x ≠ 0 := by have := Hnz.out; rwa [List.take_length] at this
      have HE := hid hnz2
      clear hnz2 hlt Hnz
      obtain ⟨O, hO⟩ : ∃ O, O = edge.length + 4 := ⟨_, rfl⟩
      have hOi : (edge.length : Int) + 4 = (O : Int) := by omega
      obtain ⟨r1, q1, T1⟩ := two_of O (by omega)
      have HO := hid (And.intro hO T1)
      have hO16 : O < 16384 := by omega
      clear hO T1
      go_upto_region 9 with fail
      try rw [hOi]
      clear hOi
      have hw0 : Below w.heap.size w (w.alloc (.cells #[.int .u8 0, .int .u8 1] 5)) := (Below.refl _ _).alloc (Nat.le_refl _) _
      have Hw0 := hid hw0
      clear hw0
      go_cut [7] (fun v wx => OB wx w.heap.size 5 v (partB edge O) ∧ Below w.heap.size w wx)
      case first =>
        have a0 := HO.out.2.m1
        have a1 := HO.out.2.m2
        have a2 := HO.out.2.d1
        have a3 := HO.out.2.d2
        have a4 := HO.out.2.w1
        have a5 := HO.out.2.w2
        have a6 := HO.out.2.w3
        go_wp2_with (at_builtin; refine wpList_bytes H.out.2.1 _ rfl _ _ _ rfl w.heap.size _ [0, 1] rfl (ob_two w) _ edge rfl (Src.ofMkS _ Tryd.underlying9 edge) ?k1 ?k2 ?_)
        case k1 => first | omega | (simp; omega)
        try case k2 => simp
        intro v1 W1 ho1 hg1
        have hb1 : Below w.heap.size w W1 := Hw0.out.trans (hg1.below (B := w.heap.size) (by simp) (fun k e => by cases e; exact Nat.le_refl _))
        obtain ⟨op, oc, hv1⟩ := ho1.form
        subst hv1
        have H1 := hid (And.intro ho1 hb1)
        have hs1 := hb1.size
        clear ho1 hg1 hb1
        go_wp2_with (at_builtin; refine wpList_bytes H.out.2.1 _ rfl _ _ _ rfl w.heap.size _ ([0, 1] ++ edge) rfl (H1.out.1.below ((Below.refl _ _).alloc (Nat.le_refl _) _)) _ [0, loB O, hiB O] rfl (src_three W1 HO.out.2.r_ HO.out.2.q_ hO16 rfl) ?k3 ?k4 ?_)
        case k3 => first | omega | (simp; omega)
        case k4 => first | omega | (simp; omega)
        intro v2 W2 ho2 hg2
        have hg2 : Grew W1 W2 _ v2 := Grew.under ((Below.refl _ _).alloc (Nat.le_refl _) _) hg2
        have hb2 : Below w.heap.size w W2 := H1.out.2.trans (hg2.below hs1 (fun k e => H1.out.1.high k e))
        obtain ⟨op2, oc2, hv2⟩ := ho2.form
        subst hv2
        have H2 := hid (And.intro ho2 hb2)
        clear ho2 hg2 hb2
        go_wp2_with fail
        go_meet
        exact H2.out
      case rest =>
        obtain ⟨ho3, hb3⟩ := hcut
        obtain ⟨bp, bc, hv3⟩ := ho3.form
        obtain ⟨O2, hO2⟩ : ∃ O2, O2 = (partB edge O).length := ⟨_, rfl⟩
        rw [← hO2] at hv3
        subst hv3
        have hO2e : O2 = edge.length + 5 := by rw [hO2, partB_length]
        obtain ⟨r2, q2, T2⟩ := two_of O2 (by omega)
        have hO216 : O2 < 16384 := by omega
        have HO2 := hid (And.intro hO2e (And.intro T2 hb3))
        have hs3 := hb3.size
        have hwc : Below wc.heap.size wc (wc.alloc (.cells #[.int .u8 0, .int .u8 1] 5)) := (Below.refl _ _).alloc (Nat.le_refl _) _
        have Hwc := hid hwc
        clear hO2 hO2e T2 ho3 hb3 hwc
        go_upto_region 11 with fail
        go_cut [7] (fun v wx => OB wx w.heap.size 5 v (partB edge O2) ∧ Below w.heap.size w wx)
        case first =>
          have a0 := HO2.out.2.1.m1
          have a1 := HO2.out.2.1.m2
          have a2 := HO2.out.2.1.d1
          have a3 := HO2.out.2.1.d2
          have a4 := HO2.out.2.1.w1
          have a5 := HO2.out.2.1.w2
          have a6 := HO2.out.2.1.w3
          go_wp2_with (at_builtin; refine wpList_bytes H.out.2.1 _ rfl _ _ _ rfl wc.heap.size _ [0, 1] rfl (ob_two wc) _ edge rfl (Src.ofMkS _ Tryd.underlying9 edge) ?k5 ?k6 ?_)
          case k5 => first | omega | (simp; omega)
          try case k6 => simp
          intro v1 W1 ho1 hg1
          have hb1 : Below wc.heap.size wc W1 := Hwc.out.trans (hg1.below (B := wc.heap.size) (by simp) (fun k e => by cases e; exact Nat.le_refl _))
          obtain ⟨op, oc, hv1⟩ := ho1.form
          subst hv1
          have H1 := hid (And.intro ho1 hb1)
          have hs1 := hb1.size
          clear ho1 hg1 hb1
          go_wp2_with (at_builtin; refine wpList_bytes H.out.2.1 _ rfl _ _ _ rfl wc.heap.size _ ([0, 1] ++ edge) rfl (H1.out.1.below ((Below.refl _ _).alloc (Nat.le_refl _) _)) _ [0, loB O2, hiB O2] rfl (src_three W1 HO2.out.2.1.r_ HO2.out.2.1.q_ hO216 rfl) ?k7 ?k8 ?_)
          case k7 => first | omega | (simp; omega)
          case k8 => first | omega | (simp; omega)
          intro v2 W2 ho2 hg2
          have hg2 : Grew W1 W2 _ v2 := Grew.under ((Below.refl _ _).alloc (Nat.le_refl _) _) hg2
          have hb2 : Below wc.heap.size wc W2 := H1.out.2.trans (hg2.below hs1 (fun k e => H1.out.1.high k e))
          obtain ⟨op2, oc2, hv2⟩ := ho2.form
          subst hv2
          have H2 := hid (And.intro (ho2.base hs3) (HO2.out.2.2.trans (hb2.mono hs3)))
          clear ho2 hg2 hb2
          go_wp2_with fail
          go_meet
          exact H2.out
        case rest =>
          clear hs3 Hwc
          obtain ⟨ho4, hb4⟩ := hcut
          obtain ⟨bp, bc, hv4⟩ := ho4.form
          subst hv4
          obtain ⟨m, hm⟩ : ∃ m, m = bk % 4 := ⟨_, rfl⟩
          have hm4 : m < 4 := by omega
          have hm1 : Int.tmod (bk : Int) 4 = (m : Int) := by rw [Int.tmod_eq_emod_of_nonneg (by omega)]; omega
          have hm2 : (bk : Int) % 4 = (m : Int) := by omega
          obtain ⟨tv, htv⟩ : ∃ tv : Nat, tv = if m = 0 then 0 else if m = 1 then O2 else if m = 2 then 2 * O2 else 1 := ⟨_, rfl⟩
          have hO2l : O2 ≤ 205 := by have := HO2.out.1; omega
          have H4 := hid (And.intro ho4 hb4)
          have Htv := hid htv
          have hs4 := hb4.size
          clear ho4 hb4 hm htv
          go_upto_region 12 with fail
          go_cut [8] (fun v wx => v = .int .i64 (tv : Int) ∧ Below wc.heap.size wc wx)
          case first =>
            have hmc : m = 0 ∨ m = 1 ∨ m = 2 ∨ m = 3 := by omega
            rcases hmc with h | h | h | h
            · subst h
              have e1 : Int.tmod (bk : Int) 4 = 0 := hm1
              have e2 : (bk : Int) % 4 = 0 := hm2
              clear hm1 hm2
              go_wp2_with fail
              go_meet
              exact ⟨by rw [Htv.out]; simp, (Below.refl _ _).alloc (Nat.le_refl _) _⟩
            · subst h
              have e1 : Int.tmod (bk : Int) 4 = 1 := hm1
              have e2 : (bk : Int) % 4 = 1 := hm2
              clear hm1 hm2
              go_wp2_with fail
              go_meet
              exact ⟨by rw [Htv.out]; simp, (Below.refl _ _).alloc (Nat.le_refl _) _⟩
            · subst h
              have e1 : Int.tmod (bk : Int) 4 = 2 := hm1
              have e2 : (bk : Int) % 4 = 2 := hm2
              clear hm1 hm2
              go_wp2_with fail
              go_meet
              exact ⟨by rw [Htv.out]; simp, (Below.refl _ _).alloc (Nat.le_refl _) _⟩
            · subst h
              have e1 : Int.tmod (bk : Int) 4 = 3 := hm1
              have e2 : (bk : Int) % 4 = 3 := hm2
              clear hm1 hm2
              go_wp2_with fail
              go_meet
              exact ⟨by rw [Htv.out]; simp, (Below.refl _ _).alloc (Nat.le_refl _) _⟩
          case rest =>
            obtain ⟨rfl, hb5⟩ := hcut
            have ho5 := H4.out.1.below hb5
            have hb5' := H4.out.2.trans (hb5.mono H4.out.2.size)
            have htl : tv ≤ 410 := by
              rw [Htv.out]
              split
              · omega
              · split
                · omega
                · split <;> omega
            obtain ⟨r3, q3, T3⟩ := two_of tv (by omega)
            obtain ⟨P0, hP0⟩ : ∃ P0, P0 = partB edge O2 := ⟨_, rfl⟩
            rw [← hP0] at ho5 ⊢
            have hPl : P0.length ≤ 205 := by rw [hP0, partB_length]; omega
            have H5 := hid (And.intro ho5 (And.intro hb5' (And.intro T3 hP0)))
            have hs5 := hb5'.size
            have hO316 : tv < 16384 := by omega
            clear ho5 hb5 hb5' T3 hP0 hs4 htl
            go_upto_region 13 with fail
            go_cut [7] (fun v wx => OB wx w.heap.size 5 v (partB edge O2 ++ partB edge tv) ∧ Below w.heap.size w wx)
            case first =>
              have a0 := H5.out.2.2.1.m1
              have a1 := H5.out.2.2.1.m2
              have a2 := H5.out.2.2.1.d1
              have a3 := H5.out.2.2.1.d2
              have a4 := H5.out.2.2.1.w1
              have a5 := H5.out.2.2.1.w2
              have a6 := H5.out.2.2.1.w3
              go_wp2_with (at_builtin; refine wpList_bytes H.out.2.1 _ rfl _ _ _ rfl w.heap.size _ P0 rfl (H5.out.1.below ((Below.refl _ _).alloc (Nat.le_refl _) _)) _ [0, 1] rfl (src_two wc rfl) ?n1 ?n2 ?_)
              case n1 => first | omega | (simp; omega)
              case n2 => first | omega | (simp; omega)
              intro v1 W1 ho1 hg1
              obtain ⟨P1, hP1⟩ : ∃ P1, P1 = P0 ++ [0, 1] := ⟨_, rfl⟩
              rw [← hP1] at ho1
              have hPl1 : P1.length ≤ 207 := by rw [hP1, List.length_append]; simp; omega
              have hg1 : Grew wc W1 _ v1 := Grew.under ((Below.refl _ _).alloc (Nat.le_refl _) _) hg1
              have hb1 : Below w.heap.size w W1 := H5.out.2.1.trans (hg1.below hs5 (fun k e => H5.out.1.high k e))
              obtain ⟨op, oc, hv1⟩ := ho1.form
              subst hv1
              have H6 := hid (And.intro ho1 (And.intro hb1 hP1))
              have hs6 := hb1.size
              clear ho1 hg1 hb1 hP1
              go_wp2_with (at_builtin; refine wpList_bytes H.out.2.1 _ rfl _ _ _ rfl w.heap.size _ P1 rfl H6.out.1 _ edge rfl (Src.ofMkS _ Tryd.underlying9 edge) ?n3 ?n4 ?_)
              case n3 => first | omega | (simp; omega)
              case n4 => exact hs6
              intro v2 W2 ho2 hg2
              obtain ⟨P2, hP2⟩ : ∃ P2, P2 = P1 ++ edge := ⟨_, rfl⟩
              rw [← hP2] at ho2
              have hPl2 : P2.length ≤ 407 := by rw [hP2, List.length_append]; omega
              have hb2 : Below w.heap.size w W2 := H6.out.2.1.trans (hg2.below hs6 (fun k e => H6.out.1.high k e))
              obtain ⟨op2, oc2, hv2⟩ := ho2.form
              subst hv2
              have H7 := hid (And.intro ho2 (And.intro hb2 hP2))
              have hs7 := hb2.size
              clear ho2 hg2 hb2 hP2
              go_wp2_with (at_builtin; refine wpList_bytes H.out.2.1 _ rfl _ _ _ rfl w.heap.size _ P2 rfl (H7.out.1.below ((Below.refl _ _).alloc (Nat.le_refl _) _)) _ [0, loB tv, hiB tv] rfl (src_three W2 H5.out.2.2.1.r_ H5.out.2.2.1.q_ hO316 rfl) ?n5 ?n6 ?_)
              case n5 => first | omega | (simp; omega)
              case n6 => first | omega | (simp; omega)
              intro v3 W3 ho3 hg3
              have hg3 : Grew W2 W3 _ v3 := Grew.under ((Below.refl _ _).alloc (Nat.le_refl _) _) hg3
              have hb3 : Below w.heap.size w W3 := H7.out.2.1.trans (hg3.below hs7 (fun k e => H7.out.1.high k e))
              obtain ⟨op3, oc3, hv3⟩ := ho3.form
              subst hv3
              have H8 := hid (And.intro ho3 hb3)
              clear ho3 hg3 hb3
              go_wp2_with fail
              go_meet
              have he : P2 ++ [0, loB tv, hiB tv] = partB edge O2 ++ partB edge tv := by rw [H7.out.2.2, H6.out.2.2, H5.out.2.2.2]; simp [partB, List.append_assoc]
              have h := H8.out
              rw [he] at h ⊢
              exact h
            case rest =>
              obtain ⟨ho6, hb6⟩ := hcut
              obtain ⟨B, hBe⟩ : ∃ B, B = partB edge O2 ++ partB edge tv := ⟨_, rfl⟩
              rw [← hBe] at ho6
              have hBl : B.length ≤ 410 := by rw [hBe, List.length_append, partB_length, partB_length]; omega
              obtain ⟨op, oc, hv6⟩ := ho6.form
              subst hv6
              have hE : m < 3 → (allS B).1 ≠ 0 := fun h3 => by
                have hne : edge ≠ [] := fun e => H.out.2.2 (by rw [e]; simp)
                rw [hBe, HO2.out.1]
                refine round_err HE.out hne hel ?_
                have h1 := HO2.out.1
                rw [Htv.out]
                rcases (show m = 0 ∨ m = 1 ∨ m = 2 by omega) with rfl | rfl | rfl
                · exact .inl rfl
                · exact .inr (.inl h1)
                · exact .inr (.inr (by rw [← h1]; rfl))
              have H6 := hid (And.intro (ho6.bs (by omega)) (And.intro hb6 (And.intro (H.out.1.below hb6) hE)))
              clear ho6 hb6 hE hs5 hBe hO216 hO16 hO316
              obtain ⟨L, hL⟩ : ∃ L, L = allS B := ⟨_, rfl⟩
              obtain ⟨E, L⟩ := L
              obtain ⟨rr, hrr⟩ : ∃ rr, rr = findT B (edge ++ edge) := ⟨_, rfl⟩
              obtain ⟨x, is, g⟩ := rr
              go_wp2_with fail
              refine (trie_all wc op B.length oc B H6.out.1 H6.out.2.2.1).mono ?_
              rintro e W2 ⟨va, rfl, hes, hb2⟩
              rw [← hL] at hes ⊢
              obtain ⟨ap, ac, hva⟩ := hes.form
              subst hva
              have H7 := hid (And.intro hes (And.intro (H6.out.1.below hb2) (And.intro (H6.out.2.2.1.below hb2) (H6.out.2.1.trans (hb2.mono H6.out.2.1.size)))))
              clear hes hb2
              have hall := ref_all W2 op B.length oc B H7.out.2.1
              rw [← hL] at hall
              have hE3 := H6.out.2.2.2
              rw [← hL] at hE3
              have HL := hid (And.intro hL hall)
              have HE3 := hid hE3
              clear hL hall hE3
              go_wp2_with fail
              refine HL.out.2.mono ?_
              rintro e W3 ⟨vb, rfl, hes3, hb3⟩
              obtain ⟨bp3, bc3, hvb⟩ := hes3.form
              subst hvb
              have H8 := hid (And.intro hes3 (And.intro (H7.out.1.below hb3) (And.intro (H7.out.2.1.below hb3) (And.intro (H7.out.2.2.1.below hb3) (H7.out.2.2.2.trans (hb3.mono H7.out.2.2.2.size))))))
              clear hes3 hb3
              go_upto_region 16 with fail
              go_cut [121] (fun v wx => v = .bool false ∧ ∃ q, wx = W3.drewN q)
              case first =>
                go_wp2_with fail
                refine (ref_same W3 _ _ L H8.out.2.1 H8.out.1).mono ?_
                rintro e w8 ⟨rfl, q, rfl⟩
                by_cases hm3 : m < 3
                · have hd7 : decide ((m : Int) < 3) = true := by rw [decide_eq_true_eq]; omega
                  have hE0 : ((E : Int) == 0) = false := by rw [beq_eq_false_iff_ne]; have := HE3.out hm3; omega
                  clear hm3
                  go_wp2_with fail
                  go_meet
                  exact ⟨rfl, q, rfl⟩
                · have hd7 : decide ((m : Int) < 3) = false := by rw [decide_eq_false_iff_not]; omega
                  clear hm3
                  go_wp2_with fail
                  go_meet
                  exact ⟨rfl, q, rfl⟩
              case rest =>
                obtain ⟨rfl, q, rfl⟩ := hcut
                obtain ⟨V, hV⟩ : ∃ V, V = W3.drewN q := ⟨_, rfl⟩
                have hbV : BS V (.slice op B.length oc) B := H8.out.2.2.1.heap (by rw [hV]; rfl)
                have hevV : ET V := by rw [hV]; exact H8.out.2.2.2.1
                have hlowV : Below w.heap.size w V := by have h := H8.out.2.2.2.2; rw [hV]; exact ⟨h.os, h.tape, h.output, h.size, h.block⟩
                rw [← hV]
                have hfd := trie_find V op B.length oc B (edge ++ edge) hbV hevV
                rw [← hrr] at hfd
                have HF := hid (And.intro hrr (And.intro hfd (And.intro hbV (And.intro hevV hlowV))))
                have hapm : mkS edge ++ mkS edge = mkS (edge ++ edge) := mkS_append _ _
                have hcat : ¬ 9223372036854775807 < edge.length + edge.length := by omega
                clear hrr hfd hbV hevV hlowV hV
                go_wp2_with fail
                refine HF.out.2.1.mono ?_
                rintro e W4 ⟨rfl, hb4⟩
                have hba4 : Below W4.heap.size W4 (W4.alloc (.cells x.cells.toArray 25)) := (Below.refl _ _).alloc (Nat.le_refl _) _
                have hb4' := hb4.trans (hba4.mono hb4.size)
                have hN4 : RowAt (W4.alloc (.cells x.cells.toArray 25)) W4.heap.size 25 x.cells.toArray := heap_alloc_new W4 _
                obtain ⟨N, hN⟩ : ∃ N, N = W4.heap.size := ⟨_, rfl⟩
                obtain ⟨W5, hW5⟩ : ∃ W5, W5 = W4.alloc (.cells x.cells.toArray 25) := ⟨_, rfl⟩
                rw [← hN, ← hW5] at hN4
                rw [← hW5] at hb4'
                have H9 := hid (And.intro hN4 (And.intro (HF.out.2.2.1.below hb4') (And.intro (HF.out.2.2.2.1.below hb4') (HF.out.2.2.2.2.trans (hb4'.mono HF.out.2.2.2.2.size)))))
                have hW5' : W4.alloc (.cells #[.string (mkS x.name), .int .i64 x.kind, .bool x.weak, .int .u64 (x.value : Int), .int .u64 (x.resolver : Int), .int .u64 (x.ordinal : Int), .string (mkS x.other)] 25) = W5 := hW5.symm
                have HW5 := hid (And.intro hN hW5')
                clear hb4 hba4 hb4' hN4 hN hW5 hW5'
                rw [show x.cells.toArray = #[.string (mkS x.name), .int .i64 x.kind, .bool x.weak, .int .u64 (x.value : Int), .int .u64 (x.resolver : Int), .int .u64 (x.ordinal : Int), .string (mkS x.other)] from rfl]
                go_upto_region 19 with fail
                rw [HW5.out.2, ← HW5.out.1]
                have hrf := ref_find W5 op B.length oc B (edge ++ edge) H9.out.2.1
                rw [← HF.out.1] at hrf
                have HG := hid hrf
                clear hrf
                go_wp2_with fail
                refine HG.out.mono ?_
                rintro e W6 ⟨rfl, hb6⟩
                have hba6 : Below W6.heap.size W6 (W6.alloc (.cells x.cells.toArray 25)) := (Below.refl _ _).alloc (Nat.le_refl _) _
                have hb6' := hb6.trans (hba6.mono hb6.size)
                have hM6 : RowAt (W6.alloc (.cells x.cells.toArray 25)) W6.heap.size 25 x.cells.toArray := heap_alloc_new W6 _
                obtain ⟨M, hM⟩ : ∃ M, M = W6.heap.size := ⟨_, rfl⟩
                obtain ⟨W7, hW7⟩ : ∃ W7, W7 = W6.alloc (.cells x.cells.toArray 25) := ⟨_, rfl⟩
                rw [← hM, ← hW7] at hM6
                rw [← hW7] at hb6'
                have hNr : RowAt W7 N 25 x.cells.toArray := (hb6'.block N H9.out.1.lt).trans H9.out.1
                have H10 := hid (And.intro hM6 (And.intro hNr (And.intro (H9.out.2.2.1.below hb6') (H9.out.2.2.2.trans (hb6'.mono H9.out.2.2.2.size)))))
                have hW7' : W6.alloc (.cells #[.string (mkS x.name), .int .i64 x.kind, .bool x.weak, .int .u64 (x.value : Int), .int .u64 (x.resolver : Int), .int .u64 (x.ordinal : Int), .string (mkS x.other)] 25) = W7 := hW7.symm
                have HW7 := hid (And.intro hM hW7')
                clear hb6 hba6 hb6' hM6 hM hW7 hW7' hNr
                rw [show x.cells.toArray = #[.string (mkS x.name), .int .i64 x.kind, .bool x.weak, .int .u64 (x.value : Int), .int .u64 (x.resolver : Int), .int .u64 (x.ordinal : Int), .string (mkS x.other)] from rfl]
                go_upto_region 20 with fail
                rw [HW7.out.2, ← HW7.out.1]
                obtain ⟨n0, n1, n2, n3, n4, n5, n6⟩ := row_cells H10.out.2.1
                obtain ⟨m0, m1, m2, m3, m4, m5, m6⟩ := row_cells H10.out.1
                go_wp2_with fail
                refine (trie_known W7 H10.out.2.2.1).mono ?_
                rintro e w9 ⟨rfl, hb9⟩
                go_wp2_with fail
                go_ret
                exact ⟨rfl, H10.out.2.2.2.trans (hb9.mono H10.out.2.2.2.size)⟩

theorem tr_round (w : World) (edge : List UInt8) (back : Int) (het : ET w) :
    Calls Tryd.prog 6 #[.string (mkS edge), .int .i64 back] w fun e w' => e = .returned (.bool true) ∧ Below w.heap.size w w' := (tr_round_law w edge back het).mono fun _ _ h => h
end Go.Proofs.YtipgcdpmkpjokaaDoor
