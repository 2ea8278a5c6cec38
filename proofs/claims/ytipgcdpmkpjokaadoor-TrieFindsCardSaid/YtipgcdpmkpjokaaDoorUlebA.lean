/- Package leb: a group. -/
import Derived.Test.YtipgcdpmkpjokaaDoorCurD
namespace Go.Proofs.YtipgcdpmkpjokaaDoor
set_option linter.unusedSimpArgs false
set_option linter.unusedVariables false
open Go.RowKit

theorem or_shl7 (A x j : Nat) (hj : j ≤ 9) (hA : A < 128 ^ j) (hx : x < 128) (h : ¬ (j = 9 ∧ 1 < x)) :
    bits BinOp.or IntKind.u64 (A : Int) (IntKind.u64.wrap ((x : Int) * 2 ^ (7 * j))) = ((A + x * 128 ^ j : Nat) : Int) := by
  have hp : (128 : Nat) ^ j = 2 ^ (7 * j) := by rw [Nat.pow_mul]
  have hb : x * 2 ^ (7 * j) < 2 ^ 64 := by
    by_cases h9 : j = 9
    · subst h9
      have : x ≤ 1 := by omega
      have h2 : x * 2 ^ (7 * 9) ≤ 1 * 2 ^ (7 * 9) := Nat.mul_le_mul_right _ this
      exact Nat.lt_of_le_of_lt h2 (by rw [Nat.one_mul]; exact Nat.pow_lt_pow_right (by omega) (by omega))
    · have h1 : x * 2 ^ (7 * j) < 2 ^ 7 * 2 ^ (7 * j) := Nat.mul_lt_mul_of_pos_right (by omega) (Nat.two_pow_pos _)
      have h2 : (2 : Nat) ^ 7 * 2 ^ (7 * j) ≤ 2 ^ 64 := by rw [← Nat.pow_add]; exact Nat.pow_le_pow_right (by omega) (by omega)
      omega
  rw [hp] at hA ⊢
  have hA' : A < 2 ^ 64 := Nat.lt_of_lt_of_le hA (Nat.pow_le_pow_right (by omega) (by omega))
  have e2 : (x : Int) * 2 ^ (7 * j) = ((x * 2 ^ (7 * j) : Nat) : Int) := by simp
  have e3 : IntKind.u64.wrap ((x * 2 ^ (7 * j) : Nat) : Int) = ((x * 2 ^ (7 * j) : Nat) : Int) := IntWalk.u64_in _ (by omega)
  rw [e2, e3]
  rw [or_u64 _ _ hA' hb, or_add A x (7 * j) hA]

set_option maxHeartbeats 1000000 in
theorem uleb_group (w : World) (nb i b n : Nat) (hi : i ≤ 9) (hb : b < 128) (hn : n < 128 ^ i) (hx : w.cell? ⟨nb, 0, none⟩ = some (.int .u64 (n : Nat))) (hf : w.frozen? ⟨nb, 0, none⟩ = false) :
    Calls Tryd.prog 56 #[.int .i64 (i : Nat), .int .u8 (b : Nat), .pointer (some ⟨nb, 0, none⟩)] w fun e w' =>
      e = .returned (.bool (decide (i < 9) || decide (b ≤ 1))) ∧ ∃ (x : Int) (q : Nat), w' = (w.setCell ⟨nb, 0, none⟩ (.int .u64 x)).drewN q ∧ (¬ (i = 9 ∧ 1 < b) → x = ((n + b * 128 ^ i : Nat) : Int)) := by
  have hw : IntKind.i64.wrap (7 * (i : Int)) = 7 * (i : Int) := IntWalk.i64_in _ (by omega)
  have hneg : ¬ 7 * (i : Int) < 0 := by omega
  have hb1 : decide ((b : Int) ≤ 1) = decide (b ≤ 1) := decide_eq_decide.2 (by omega)
  by_cases h9 : i < 9
  · have hd : decide ((i : Int) < 9) = true := by simp; omega
    go_enter Tryd.func56, Tryd.ntmps56
    go_wp2_with fail
    go_region
    go_wp2
    go_ret
    exact ⟨by rw [decide_eq_true h9]; rfl, _, 1, rfl, fun h => or_shl7 n b i hi hn hb h⟩
  · obtain rfl : i = 9 := by omega
    go_enter Tryd.func56, Tryd.ntmps56
    go_wp2_with fail
    go_region
    go_wp2
    go_ret
    refine ⟨by rw [decide_eq_false h9, ← hb1]; rfl, _, 1, rfl, fun h => ?_⟩
    have := or_shl7 n b 9 hi hn hb (fun hh => h ⟨trivial, hh.2⟩)
    exact this
end Go.Proofs.YtipgcdpmkpjokaaDoor
