/- The walk of ExportBounds. -/
import Derived.Test.YthhjdkcnkdffcaaGreatZExK
import Derived.Test.YthhjdkcnkdffcaaGreatZOpen
import Derived.StillTailTactics
namespace Go.Proofs.YthhjdkcnkdffcaaGreat
set_option linter.unusedSimpArgs false
set_option linter.unusedVariables false
open Go.RowKit
attribute [local go_sem ↓] old_img old_simg old_cimg
attribute [local go_sem] big_img big_simg big_cimg
attribute [local go_sem] fullA_last setRow_last rowA_older

theorem ES_one (w : World) (x : Exp) : ES (w.alloc (.cells #[.string (mkS x.name), .int .i64 x.kind, .bool x.weak, .int .u64 (x.value : Int), .int .u64 (x.resolver : Int), .int .u64 (x.ordinal : Int), .string (mkS x.other)] 25)) (.slice (some ⟨w.heap.size, 0, none⟩) 1 1) [x] := ES_lit w [x] _ (by simp)

/-- What stands while ExportBounds goes on. -/
structure BdSt (w W : World) (x : Exp) : Prop where
  below : Below w.heap.size w W
  exp : W.heap[w.heap.size]? = some (.cells x.cells.toArray 25 (0, 0))
theorem BdSt.next {w W W' : World} {x : Exp} (h : BdSt w W x) (hb : Below W.heap.size W W') : BdSt w W' x :=
  ⟨h.below.trans (hb.mono h.below.size), (hb.block _ (Array.getElem?_eq_some_iff.1 h.exp).1).trans h.exp⟩

set_option maxHeartbeats 4000000 in
set_option maxRecDepth 4000 in
theorem ex_law_bounds (w : World) (x : Exp) (hx : ExpIn x) : Calls Tryz.prog 3 #[.agg x.cells.toArray] w fun e w' => e = .returned (.bool true) ∧ Below w.heap.size w w' := by
  have hst : BdSt w (w.alloc (.cells x.cells.toArray 25)) x := ⟨(Below.refl _ _).alloc (Nat.le_refl _) _, heap_alloc_new w _⟩
  have H := hid (And.intro hx hst)
  clear hx hst
  unfold Exp.cells
  by_cases hn : 300 < x.name.length ∨ 300 < x.other.length
  · have bx : BdSt w (w.alloc (.cells #[.string (mkS x.name), .int .i64 x.kind, .bool x.weak, .int .u64 (x.value : Int), .int .u64 (x.resolver : Int), .int .u64 (x.ordinal : Int), .string (mkS x.other)] 25)) x := H.out.2
    have Hb := hid bx
    clear bx
    by_cases hn1 : 300 < x.name.length
    · have d1 : decide ((300 : Int) < (x.name.length : Int)) = true := decide_eq_true (by omega)
      have d2 : decide (300 < x.name.length) = true := decide_eq_true (by omega)
      go_enter Tryz.func3, Tryz.ntmps3
      go_wp2_with fail
      refine (ex_known _).mono ?_
      rintro e w1 ⟨rfl, hb1⟩
      have H1 := hid (Hb.out.below.trans (hb1.mono Hb.out.below.size))
      clear hb1
      go_wp2_with fail
      go_ret
      exact ⟨rfl, H1.out⟩
    · have d1 : decide ((300 : Int) < (x.name.length : Int)) = false := decide_eq_false (by omega)
      have d2 : decide (300 < x.name.length) = false := decide_eq_false (by omega)
      have d3 : decide ((300 : Int) < (x.other.length : Int)) = true := decide_eq_true (by omega)
      have d4 : decide (300 < x.other.length) = true := decide_eq_true (by omega)
      go_enter Tryz.func3, Tryz.ntmps3
      go_wp2_with fail
      refine (ex_known _).mono ?_
      rintro e w1 ⟨rfl, hb1⟩
      have H1 := hid (Hb.out.below.trans (hb1.mono Hb.out.below.size))
      clear hb1
      go_wp2_with fail
      go_ret
      exact ⟨rfl, H1.out⟩
  · have d1 : decide ((300 : Int) < (x.name.length : Int)) = false := decide_eq_false (by omega)
    have d2 : decide (300 < x.name.length) = false := decide_eq_false (by omega)
    have d3 : decide ((300 : Int) < (x.other.length : Int)) = false := decide_eq_false (by omega)
    have d4 : decide (300 < x.other.length) = false := decide_eq_false (by omega)
    obtain ⟨t, z, htl, h0, hz0, -, hM⟩ := mk_spec [x] (by intro y hy; rw [List.mem_singleton] at hy; subst hy; exact H.out.1) (by intro y hy; rw [List.mem_singleton] at hy; subst hy; omega)
    have HM := hid (And.intro hM (And.intro h0 hz0))
    clear hM h0 hz0
    go_enter Tryz.func3, Tryz.ntmps3
    go_wp2_with fail
    have hES := ES_one (w.alloc (.cells #[.string (mkS x.name), .int .i64 x.kind, .bool x.weak, .int .u64 (x.value : Int), .int .u64 (x.resolver : Int), .int .u64 (x.ordinal : Int), .string (mkS x.other)] 25)) x
    rw [World.size_alloc] at hES
    refine (HM.out.1 _ _ 1 hES).mono ?_
    rintro e w1 ⟨⟨ta, tc, rfl, htb⟩, hb1⟩
    have hst1 : BdSt w w1 x := (H.out.2.next ((Below.refl _ _).alloc (Nat.le_refl _) (.cells #[.string (mkS x.name), .int .i64 x.kind, .bool x.weak, .int .u64 (x.value : Int), .int .u64 (x.resolver : Int), .int .u64 (x.ordinal : Int), .string (mkS x.other)] 25))).next hb1
    have H1 := hid (And.intro htb hst1)
    clear htb hb1 hst1 d1 d2 d3 d4
    by_cases hz : z = 0
    · subst hz
      obtain ⟨hS, -, hshort⟩ := HM.out.2.1 rfl
      obtain ⟨htn, hraw⟩ := raw_one hS [] []
      have hHS := hid (And.intro hS (And.intro hshort (And.intro htn hraw)))
      clear hS hshort htn hraw
      go_wp2_with fail
      refine (ex_plain_n w1 ta none none t.length 0 0 tc 0 0 t [] [] H1.out.1 (bs_nil _) (bs_nil _) (by omega) (by omega) (by omega)).mono ?_
      rintro e w2 ⟨p, n, d, I, rfl, hP⟩
      have hIok := hP.img.ok
      obtain ⟨W2, hW2⟩ : ∃ W, W = w2.alloc (.cells I 38) := ⟨_, rfl⟩
      have b2 : Below w2.heap.size w2 W2 := by rw [hW2]; exact (Below.refl _ _).alloc (Nat.le_refl _) _
      have hK : W2.heap[w2.heap.size]? = some (.cells I 38 (0, 0)) := by rw [hW2]; exact heap_alloc_new w2 _
      have hst2 := (H1.out.2.next hP.below).next b2
      have hn := hP.few
      have H2 := hid (And.intro (hP.bytes.below b2) (And.intro (hP.img.below b2) (And.intro hK (And.intro hst2 (hP.below.trans (b2.mono hP.below.size))))))
      clear hP b2 hK hst2
      go_upto_region 7 with fail
      rw [← hW2]
      clear hW2 hES
      obtain ⟨c0, c1, c2, c3, c4, c5, c6⟩ := exp_at x rfl H2.out.2.2.2.1.exp
      go_upto_block 0 with fail
      go_cut [7] (fun t7 wx => t7 = .int .i64 (mayX x : Int) ∧ W2 = wx)
      case first =>
        by_cases k1 : x.kind = 1
        · have b1 : (x.kind == 1) = true := by rw [beq_iff_eq]; exact k1
          have k4 : ¬ x.kind = 4 := by omega
          by_cases v4 : 4096 ≤ x.value
          · have da : decide ((4096 : Int) ≤ (x.value : Int)) = true := decide_eq_true (by omega)
            have db : decide (4096 ≤ x.value) = true := decide_eq_true v4
            have e : mayX x = 4 := by unfold mayX; rw [if_neg k4, if_pos k1, if_pos v4]
            have He := hid e
            clear e
            go_wp2_with fail
            go_meet
            exact ⟨by rw [He.out]; rfl, rfl⟩
          · have da : decide ((4096 : Int) ≤ (x.value : Int)) = false := decide_eq_false (by omega)
            have db : decide (4096 ≤ x.value) = false := decide_eq_false v4
            have e : mayX x = 0 := by unfold mayX; rw [if_neg k4, if_pos k1, if_neg v4]
            have He := hid e
            clear e
            go_wp2_with fail
            go_meet
            exact ⟨by rw [He.out]; rfl, rfl⟩
        · have b1 : (x.kind == 1) = false := by rw [beq_eq_false_iff_ne]; exact k1
          by_cases k4 : x.kind = 4
          · have b4 : (x.kind == 4) = true := by rw [beq_iff_eq]; exact k4
            by_cases v4 : 4096 ≤ x.value
            · have da : decide ((4096 : Int) ≤ (x.value : Int)) = true := decide_eq_true (by omega)
              have db : decide (4096 ≤ x.value) = true := decide_eq_true v4
              have e : mayX x = 4 := by unfold mayX; rw [if_pos k4, if_pos (.inl v4)]
              have He := hid e
              clear e
              go_wp2_with fail
              go_meet
              exact ⟨by rw [He.out]; rfl, rfl⟩
            · have da : decide ((4096 : Int) ≤ (x.value : Int)) = false := decide_eq_false (by omega)
              have db : decide (4096 ≤ x.value) = false := decide_eq_false v4
              by_cases r4 : 4096 ≤ x.resolver
              · have ra : decide ((4096 : Int) ≤ (x.resolver : Int)) = true := decide_eq_true (by omega)
                have rb : decide (4096 ≤ x.resolver) = true := decide_eq_true r4
                have e : mayX x = 4 := by unfold mayX; rw [if_pos k4, if_pos (.inr r4)]
                have He := hid e
                clear e
                go_wp2_with fail
                go_meet
                exact ⟨by rw [He.out]; rfl, rfl⟩
              · have ra : decide ((4096 : Int) ≤ (x.resolver : Int)) = false := decide_eq_false (by omega)
                have rb : decide (4096 ≤ x.resolver) = false := decide_eq_false r4
                have e : mayX x = 0 := by unfold mayX; rw [if_pos k4, if_neg (by omega)]
                have He := hid e
                clear e
                go_wp2_with fail
                go_meet
                exact ⟨by rw [He.out]; rfl, rfl⟩
          · have b4 : (x.kind == 4) = false := by rw [beq_eq_false_iff_ne]; exact k4
            by_cases k3 : x.kind = 3
            · have b3 : (x.kind == 3) = true := by rw [beq_iff_eq]; exact k3
              by_cases o1 : x.ordinal = 1
              · have oa : ((x.ordinal : Int) != 1) = false := by rw [o1]; rfl
                have e : mayX x = 0 := by unfold mayX; rw [if_neg k4, if_neg k1, if_pos k3, if_neg (by omega)]
                have He := hid e
                clear e
                go_wp2_with fail
                go_meet
                exact ⟨by rw [He.out]; rfl, rfl⟩
              · have oa : ((x.ordinal : Int) != 1) = true := by rw [bne_iff_ne]; omega
                have e : mayX x = 22 := by unfold mayX; rw [if_neg k4, if_neg k1, if_pos k3, if_pos o1]
                have He := hid e
                clear e
                go_wp2_with fail
                go_meet
                exact ⟨by rw [He.out]; rfl, rfl⟩
            · have b3 : (x.kind == 3) = false := by rw [beq_eq_false_iff_ne]; exact k3
              have e : mayX x = 0 := by unfold mayX; rw [if_neg k4, if_neg k1, if_neg k3]
              have He := hid e
              clear e
              go_wp2_with fail
              go_meet
              exact ⟨by rw [He.out]; rfl, rfl⟩
      case rest =>
        obtain ⟨rfl, rfl⟩ := hcut
        obtain ⟨M, hMe⟩ : ∃ M, M = mayX x := ⟨_, rfl⟩
        rw [← hMe]
        have hAll := allX_one hHS.out.2.2.2
        have hFind := findX_of (t := t) (T := []) (N := []) (x := x) (by rw [hHS.out.2.2.2]) (by rw [hHS.out.2.2.2]; simp)
        rw [← hMe] at hAll hFind
        have hfs := finds_at (l := t) (x := x) (by rw [hHS.out.1]) (by rw [hHS.out.1, byNames_one]; simp) (hHS.out.2.1 x (by simp))
        have hrow2 := rowA_block H2.out.2.2.1 hIok.1
        have HA := hid (And.intro hAll (And.intro hFind (And.intro hfs hMe)))
        clear hAll hFind hfs hMe c1 c2 c3 c4 c5 c6
        go_wp2_with fail
        refine (ex_all _ p n d I t [] [] H2.out.1 H2.out.2.1 hn (fun _ => by rw [hHS.out.1])).mono ?_
        rintro e w3 ⟨v3, rfl, hv3, hb3⟩
        rw [HA.out.1] at hv3 ⊢
        have hst3 := H2.out.2.2.2.1.next hb3
        have hK3 := (hb3.block _ (Array.getElem?_eq_some_iff.1 H2.out.2.2.1).1).trans H2.out.2.2.1
        have hrow3 := rowA_block hK3 hIok.1
        obtain ⟨e0, -⟩ := exp_at x rfl hst3.exp
        have H3 := hid (And.intro hv3 (And.intro hst3 (And.intro (H2.out.1.below hb3) (And.intro (H2.out.2.1.below hb3) hK3))))
        clear hb3 hst3 hK3 hrow2 c0 hv3
        by_cases hm : M = 0
        · subst hm
          rw [if_neg (by simp)]
          have hv := H3.out.1
          rw [if_neg (by simp)] at hv
          obtain ⟨q3, c3, rfl⟩ := hv.form
          have hv3 := hid hv
          clear hv
          dsimp only
          rw [show ((0 : Nat) : Int) = (0 : Int) from rfl]
          go_wp2_with fail
          refine (ex_find _ p n d I t [] [] x.name H3.out.2.2.1 H3.out.2.2.2.1 hn (fun _ => by rw [HA.out.2.2.1])).mono ?_
          rintro e w4 ⟨rfl, hb4⟩
          rw [HA.out.2.1, if_neg (by simp)]
          dsimp only
          unfold Exp.cells
          obtain ⟨W5, hW5⟩ : ∃ W, W = w4.alloc (.cells x.cells.toArray 25) := ⟨_, rfl⟩
          have hn5 : Below w4.heap.size w4 W5 := by rw [hW5]; exact (Below.refl _ _).alloc (Nat.le_refl _) _
          have hst4 := (H3.out.2.1.next hb4).next hn5
          have hv4 := (hv3.out.below hb4).below hn5
          have hk4 : W5.heap[w4.heap.size]? = some (.cells x.cells.toArray 25 (0, 0)) := by rw [hW5]; exact heap_alloc_new w4 _
          unfold Exp.cells at hk4 hW5
          obtain ⟨a0, a1, a2, a3, a4, a5, a6⟩ := exp_at x rfl hst4.exp
          obtain ⟨b0, b1, b2, b3, b4, b5, b6⟩ := exp_at x rfl hk4
          obtain ⟨g4, o4, rfl, k0, k1, k2, k3, k4, k5, k6⟩ := hv4.at (k := 0) rfl
          rw [Nat.zero_mul, Nat.add_zero] at k0 k1 k2 k3 k4 k5 k6
          have H4 := hid hst4
          clear hb4 hst4 hv4 hk4 hrow3 hn5
          have i1 : (0 : Int) < ((1 : Nat) : Int) := by omega
          have i2 : (0 : Int) < 1 := by omega
          go_upto_region 22 with fail
          rw [← hW5]
          clear hW5
          go_still_tail 27, (by kernel_rfl)
          change wpList _ _ _ _ _ W5.drew
          go_wp2_with (go_at_call 7; refine (ex_known _).mono ?_; rintro e w6 ⟨rfl, hb6⟩)
          have H6 := hid ((below_drewP H4.out.below).trans (hb6.mono H4.out.below.size))
          clear hb6
          go_wp2_with fail
          go_ret
          exact ⟨rfl, H6.out⟩
        · have dm : ((M : Int) != 0) = true := by rw [bne_iff_ne]; omega
          have dm2 : ((M : Int) == (M : Int)) = true := by simp
          have hm' := hid hm
          rw [if_pos hm]
          have hv := H3.out.1
          rw [if_pos hm] at hv
          obtain ⟨q3, c3, rfl⟩ := hv.form
          have hv3 := hid hv
          clear hv hm
          dsimp only
          go_wp2_with fail
          refine (ex_find _ p n d I t [] [] x.name H3.out.2.2.1 H3.out.2.2.2.1 hn (fun _ => by rw [HA.out.2.2.1])).mono ?_
          rintro e w4 ⟨rfl, hb4⟩
          rw [HA.out.2.1, if_pos hm'.out]
          rw [show Exp.zero.cells.toArray = #[.string ⟨#[]⟩, .int .i64 0, .bool false, .int .u64 0, .int .u64 0, .int .u64 0, .string ⟨#[]⟩] from rfl]
          have H4 := hid ((H3.out.2.1.next hb4).below)
          clear hb4 hrow3
          go_wp2_with fail
          refine (ex_known _).mono ?_
          rintro e w5 ⟨rfl, hb5⟩
          have H5 := hid ((H4.out.alloc H4.out.size (.cells #[.string ⟨#[]⟩, .int .i64 0, .bool false, .int .u64 0, .int .u64 0, .int .u64 0, .string ⟨#[]⟩] 25)).trans (hb5.mono (by have := H4.out.size; simp; omega)))
          clear hb5
          go_wp2_with fail
          go_ret
          exact ⟨rfl, H5.out⟩
    · have dz : (z != 0) = true := by rw [bne_iff_ne]; exact hz
      go_wp2_with fail
      refine (ex_known _).mono ?_
      rintro e w2 ⟨rfl, hb2⟩
      have H2 := hid (H1.out.2.below.trans (hb2.mono H1.out.2.below.size))
      clear hb2
      go_wp2_with fail
      go_ret
      exact ⟨rfl, H2.out⟩
end Go.Proofs.YthhjdkcnkdffcaaGreat
