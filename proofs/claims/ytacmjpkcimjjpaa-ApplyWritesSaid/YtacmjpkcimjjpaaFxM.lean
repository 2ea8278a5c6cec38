/- Package fixup: May; the reference's May. -/
import Derived.Test.YtacmjpkcimjjpaaFxV
import Derived.Test.YtacmjpkcimjjpaaShelf
namespace Go.Proofs.Ytacmjpkcimjjpaa
set_option linter.unusedSimpArgs false
set_option linter.unusedVariables false
open Go.RowKit Go.Maps

theorem has0 (l : List UInt8) : decide (0 ≤ Lib.indexByte l 0) = decide (nul l < l.length) := by
  rw [indexByte_nul, decide_eq_decide]
  split <;> omega

theorem contains0 (w : World) (l : List UInt8) : Calls Try.prog 42 #[.string (mkS l), .string ⟨#[0]⟩] w fun e w' => e = .returned (.bool (decide (nul l < l.length))) ∧ w = w' := by
  refine (Try.strings_Contains_one (mkS l) 0 w).mono ?_
  rintro e w' ⟨rfl, rfl⟩
  rw [mkS_toList, has0]
  exact ⟨rfl, rfl⟩

/-- May a fixup be? -/
def mayF (f : Fx) : Bool :=
  if f.kind = 1 then decide (f.ord = 0 ∧ f.sym = [] ∧ f.add = 0 ∧ f.weak = false)
  else decide (f.kind = 2 ∧ f.tgt = 0 ∧ -3 ≤ f.ord ∧ f.ord ≤ 64 ∧ 1 ≤ f.sym.length ∧ f.sym.length ≤ 255 ∧ ¬ nul f.sym < f.sym.length)

theorem ret_bool {a b : Bool} (h : a = b) : Ending.returned (.bool a) = .returned (.bool b) := by rw [h]

set_option maxHeartbeats 1000000 in
theorem fx_may (w : World) (f : Fx) :
    Calls Try.prog 17 #[f.v] w fun e w' => e = .returned (.bool (mayF f)) ∧ Below w.heap.size w w' := by
  obtain ⟨a, k, t, o, s, d, wk⟩ := f
  unfold Fx.v
  dsimp only
  by_cases hk : k = 1
  · subst hk
    go_enter Try.func17, Try.ntmps17
    go_wp2_with fail
    all_goals
      go_ret
      exact ⟨ret_bool (by simp [mayF, *]), (Below.refl _ _).alloc (Nat.le_refl _) _⟩
  · have hk1 : (k == 1) = false := by rw [beq_eq_false_iff_ne]; exact hk
    by_cases hk2 : k = 2
    · subst hk2
      have HC := hid (fun w => contains0 w s)
      obtain ⟨N, hN⟩ : ∃ N, N = decide (nul s < s.length) := ⟨_, rfl⟩
      have HM := hid (show mayF ⟨a, 2, t, o, s, d, wk⟩ = (decide (t = 0) && decide (-3 ≤ o) && decide (o ≤ 64) && decide (1 ≤ s.length) && decide (s.length ≤ 255) && !N) by rw [hN, Bool.eq_iff_iff]; simp [mayF, and_assoc])
      rw [← hN] at HC
      rw [HM.out]
      clear hN HM
      go_enter Try.func17, Try.ntmps17
      go_wp2_with (go_at_call 42; refine (HC.out _).mono ?_; rintro e w' ⟨rfl, rfl⟩)
      all_goals
        go_ret
        refine ⟨ret_bool ?_, (Below.refl _ _).alloc (Nat.le_refl _) _⟩
        first
          | (simp [*]; done)
          | (simp [*]; omega)
          | (cases s <;> simp_all <;> omega)
          | (trace_state; fail)
    · have hk2 : (k == 2) = false := by rw [beq_eq_false_iff_ne]; exact hk2
      go_enter Try.func17, Try.ntmps17
      go_wp2_with fail
      go_ret
      exact ⟨ret_bool (by simp_all [mayF]), (Below.refl _ _).alloc (Nat.le_refl _) _⟩
end Go.Proofs.Ytacmjpkcimjjpaa
