/- The reference's May of a fixup. -/
import Derived.Test.YtacmjpkcimjjpaaFxM
namespace Go.Proofs.Ytacmjpkcimjjpaa
set_option linter.unusedSimpArgs false
set_option linter.unusedVariables false
open Go.RowKit Go.Maps

set_option maxHeartbeats 1000000 in
theorem ref_fxmay (w : World) (f : Fx) (hlen : f.sym.length ≤ 140737488355328) :
    Calls Try.prog 9 #[f.v] w fun e w' => e = .returned (.bool (mayF f)) ∧ Below w.heap.size w w' := by
  obtain ⟨a, k, t, o, s, d, wk⟩ := f
  unfold Fx.v
  dsimp only at hlen ⊢
  by_cases hk : k = 1
  · subst hk
    go_enter Try.func9, Try.ntmps9
    go_wp2_with fail
    all_goals
      go_ret
      exact ⟨ret_bool (by simp [mayF, *]), (Below.refl _ _).alloc (Nat.le_refl _) _⟩
  · have hk1 : (k == 1) = false := by rw [beq_eq_false_iff_ne]; exact hk
    by_cases hk2 : k = 2
    · subst hk2
      by_cases hc : t = 0 ∧ -3 ≤ o ∧ o ≤ 64 ∧ 1 ≤ s.length ∧ s.length ≤ 255
      · obtain ⟨rfl, h1, h2, h3, h4⟩ := hc
        have HM := hid (show mayF ⟨a, 2, 0, o, s, d, wk⟩ = !decide (nul s < s.length) by rw [Bool.eq_iff_iff]; simp [mayF, and_assoc]; omega)
        rw [HM.out]
        clear HM
        obtain ⟨R, hR⟩ : ∃ R, R = !decide (nul s < s.length) := ⟨_, rfl⟩
        rw [← hR]
        have HR := hid hR
        clear hR
        have d1 : decide (o < -3) = false := by rw [decide_eq_false_iff_not]; omega
        have d2 : decide (64 < o) = false := by rw [decide_eq_false_iff_not]; omega
        have d3 : decide ((s.length : Int) < 1) = false := by rw [decide_eq_false_iff_not]; omega
        have d4 : decide (255 < (s.length : Int)) = false := by rw [decide_eq_false_iff_not]; omega
        have H := hid (And.intro h3 h4)
        clear h1 h2 h3 h4
        go_enter Try.func9, Try.ntmps9
        go_wp2_with fail
        clear d1 d2 d3 d4
        go_loop [3] (fun i => ∃ k : Nat, k ≤ nul s ∧ i = .int .i64 (k : Int)) (fun i => s.length - (intOf i).toNat)
        case atStart => exact ⟨0, Nat.zero_le _, rfl⟩
        case round =>
          obtain ⟨k, hk, rfl⟩ := hrel
          have hle := nul_le s
          have hl := H.out.2
          by_cases hlt : k < s.length
          · have hp : k < (mkS s).size := by rw [mkS_size]; exact hlt
            have hx : s[k]? = some ((mkS s)[k]'hp) := by rw [List.getElem?_eq_getElem hlt]; rfl
            by_cases hn : k < nul s
            · obtain ⟨x, h1, h2⟩ := nul_lt hn
              have hd : (((mkS s)[k]'hp).toNat == 0) = false := by
                rw [h1] at hx
                cases hx
                rw [beq_eq_false_iff_ne]
                exact fun e => h2 (UInt8.toNat_inj.1 e)
              have hd' : ((((mkS s)[k]'hp).toNat : Int) == 0) = false := by rw [beq_eq_false_iff_ne] at hd ⊢; omega
              have HN := hid hn
              clear hd hx h1 h2 hn hle
              go_wp2_with fail
              go_round
              case rel => exact ⟨k + 1, HN.out, by go_num⟩
              case measure => simp [intOf]; omega
            · have he : k = nul s := by omega
              have h0 : nul s < s.length := by omega
              have h1 := nul_at h0
              rw [← he, hx] at h1
              have hd' : ((((mkS s)[k]'hp).toNat : Int) == 0) = true := by rw [Option.some.inj h1]; rfl
              have HF := hid (show R = false by rw [HR.out]; simp [h0])
              clear hx he h0 h1 hn hle
              go_wp2_with fail
              go_ret
              exact ⟨ret_bool HF.out.symm, (Below.refl _ _).alloc (Nat.le_refl _) _⟩
          · have hn : ¬ nul s < s.length := by omega
            have HF := hid (show R = true by rw [HR.out]; simp [hn])
            clear hn hle
            go_wp2_with fail
            go_ret
            exact ⟨ret_bool HF.out.symm, (Below.refl _ _).alloc (Nat.le_refl _) _⟩
      · go_enter Try.func9, Try.ntmps9
        go_wp2_with fail
        all_goals
          first
            | (go_ret; exact ⟨ret_bool (by simp [mayF, *]; try omega), (Below.refl _ _).alloc (Nat.le_refl _) _⟩)
            | (exfalso; omega)
            | (trace_state; fail)
    · have hk2 : (k == 2) = false := by rw [beq_eq_false_iff_ne]; exact hk2
      go_enter Try.func9, Try.ntmps9
      go_wp2_with fail
      go_ret
      exact ⟨ret_bool (by simp_all [mayF]), (Below.refl _ _).alloc (Nat.le_refl _) _⟩
end Go.Proofs.Ytacmjpkcimjjpaa
