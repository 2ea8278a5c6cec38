/- Package fixup: Value; the reference's Value. -/
import Derived.Laws.Bits64b
import Derived.Laws.BitsAllLaws
import Derived.Test.YtacmjpkcimjjpaaSpV
namespace Go.Proofs.Ytacmjpkcimjjpaa
set_option linter.unusedSimpArgs false
set_option linter.unusedVariables false
open Go.RowKit Go.Maps

/-- A fixup. -/
structure Fx where
  at_ : Nat
  kind : Int
  tgt : Nat
  ord : Int
  sym : List UInt8
  add : Int
  weak : Bool

def Fx.v (f : Fx) : Value := .agg #[.int .u64 (f.at_ : Int), .int .i64 f.kind, .int .u64 (f.tgt : Int), .int .i64 f.ord, .string (mkS f.sym), .int .i64 f.add, .bool f.weak]
def Fx.cells (f : Fx) : Array Value := #[.int .u64 (f.at_ : Int), .int .i64 f.kind, .int .u64 (f.tgt : Int), .int .i64 f.ord, .string (mkS f.sym), .int .i64 f.add, .bool f.weak]

structure Fx.In (f : Fx) : Prop where
  at_ : f.at_ < 18446744073709551616
  tgt : f.tgt < 18446744073709551616
  ord : -9223372036854775808 ≤ f.ord ∧ f.ord ≤ 9223372036854775807
  add : -9223372036854775808 ≤ f.add ∧ f.add ≤ 9223372036854775807

/-- What is written. -/
def fxVal (f : Fx) (sl tg : Nat) : Nat :=
  if f.kind = 1 then (f.tgt + sl) % 72057594037927936 + f.tgt / 72057594037927936 * 72057594037927936 else (tg + (f.add % 18446744073709551616).toNat) % 18446744073709551616

theorem u64_wrap (x : Int) : IntKind.u64.wrap x = x % 18446744073709551616 := rfl
theorem u64_wrap_nat (x : Nat) : IntKind.u64.wrap (x : Int) = ((x % 18446744073709551616 : Nat) : Int) := by rw [u64_wrap]; omega

theorem and_low (n : Nat) : n &&& 72057594037927935 = n % 72057594037927936 := Nat.and_two_pow_sub_one_eq_mod n 56
theorem high_bits (n : Nat) (h : n < 18446744073709551616) : n &&& (18446744073709551615 - 72057594037927935) = n / 72057594037927936 * 72057594037927936 := by
  apply Nat.eq_of_testBit_eq
  intro i
  rw [Nat.testBit_and, show (18446744073709551615 - 72057594037927935 : Nat) = (2 ^ 8 - 1) * 2 ^ 56 from by decide, show (72057594037927936 : Nat) = 2 ^ 56 from by decide, Nat.testBit_mul_two_pow, Nat.testBit_mul_two_pow, Nat.testBit_two_pow_sub_one, Nat.testBit_div_two_pow]
  by_cases h1 : 56 ≤ i
  · simp only [h1, decide_true, Bool.true_and]
    rw [show i - 56 + 56 = i from by omega]
    by_cases h2 : i - 56 < 8
    · simp [h2]
    · have : n.testBit i = false := Nat.testBit_lt_two_pow (Nat.lt_of_lt_of_le h (show 2 ^ 64 ≤ 2 ^ i from Nat.pow_le_pow_right (by decide) (by omega)))
      rw [this]
      simp
  · simp [h1]

theorem fxVal_low (t s : Nat) (ht : t < 18446744073709551616) (hs : s < 18446744073709551616) :
    bits .or .u64 (bits .and .u64 (IntKind.u64.wrap ((t : Int) + (s : Int))) 72057594037927935) (bits .andNot .u64 (t : Int) 72057594037927935) = (((t + s) % 72057594037927936 + t / 72057594037927936 * 72057594037927936 : Nat) : Int) := by
  have h1 : IntKind.u64.wrap ((t : Int) + (s : Int)) = (((t + s) % 18446744073709551616 : Nat) : Int) := by rw [← Int.natCast_add, u64_wrap_nat]
  have h2 := bits_and_u64_nat ((t + s) % 18446744073709551616) 72057594037927935 (by omega) (by decide)
  have h3 := u64_andNot_nat t 72057594037927935 ht (by decide)
  rw [and_low] at h2
  rw [high_bits t ht] at h3
  have h4 := bits_or_u64_nat ((t + s) % 18446744073709551616 % 72057594037927936) (t / 72057594037927936 * 72057594037927936) (by omega) (by omega)
  have h5 := or_step ((t + s) % 18446744073709551616 % 72057594037927936) (t / 72057594037927936) 7 (by omega)
  rw [h1]
  have h2' : bits .and .u64 (((t + s) % 18446744073709551616 : Nat) : Int) 72057594037927935 = _ := h2
  have h3' : bits .andNot .u64 (t : Int) 72057594037927935 = _ := h3
  rw [h2', h3', h4]
  rw [show (256 : Nat) ^ 7 = 72057594037927936 from by decide] at h5
  rw [h5]
  omega

set_option maxHeartbeats 1000000 in
theorem fx_value (w : World) (f : Fx) (sl tg : Nat) (hf : f.In) (hs : sl < 18446744073709551616) (ht : tg < 18446744073709551616) :
    Calls Try.prog 30 #[f.v, .int .u64 (sl : Int), .int .u64 (tg : Int)] w fun e w' => e = .returned (.int .u64 (fxVal f sl tg : Int)) ∧ Below w.heap.size w w' := by
  obtain ⟨R, hR⟩ : ∃ R, R = fxVal f sl tg := ⟨_, rfl⟩
  rw [← hR]
  unfold Fx.v
  by_cases hk : f.kind = 1
  · have HX := hid (fxVal_low f.tgt sl hf.tgt hs)
    have HR := hid (show R = _ from hR.trans (if_pos hk))
    clear hR
    go_enter Try.func30, Try.ntmps30
    go_wp2_with fail
    rw [HX.out, ← HR.out]
    go_ret
    exact ⟨rfl, (Below.refl _ _).alloc (Nat.le_refl _) _⟩
  · have hk2 : (f.kind == 1) = false := by rw [beq_eq_false_iff_ne]; exact hk
    have HX := hid (show IntKind.u64.wrap ((tg : Int) + IntKind.u64.wrap f.add) = (((tg + (f.add % 18446744073709551616).toNat) % 18446744073709551616 : Nat) : Int) by rw [u64_wrap, u64_wrap]; omega)
    have HR := hid (show R = _ from hR.trans (if_neg hk))
    clear hR hk
    go_enter Try.func30, Try.ntmps30
    go_wp2_with fail
    rw [HX.out, ← HR.out]
    go_ret
    exact ⟨rfl, (Below.refl _ _).alloc (Nat.le_refl _) _⟩

set_option maxHeartbeats 1000000 in
theorem ref_value (w : World) (f : Fx) (sl tg : Nat) (hf : f.In) (hs : sl < 18446744073709551616) (ht : tg < 18446744073709551616) :
    Calls Try.prog 38 #[f.v, .int .u64 (sl : Int), .int .u64 (tg : Int)] w fun e w' => e = .returned (.int .u64 (fxVal f sl tg : Int)) ∧ Below w.heap.size w w' := by
  obtain ⟨R, hR⟩ : ∃ R, R = fxVal f sl tg := ⟨_, rfl⟩
  rw [← hR]
  unfold Fx.v
  by_cases hk : f.kind = 1
  · have HR := hid (show R = _ from hR.trans (if_pos hk))
    obtain ⟨H, hH⟩ : ∃ H, H = f.tgt / 72057594037927936 := ⟨_, rfl⟩
    obtain ⟨S, hS⟩ : ∃ S, S = (f.tgt + sl) % 18446744073709551616 := ⟨_, rfl⟩
    obtain ⟨L, hL⟩ : ∃ L, L = S % 72057594037927936 := ⟨_, rfl⟩
    have q1 : (f.tgt : Int) / 72057594037927936 = (H : Int) := by omega
    have q2 : Int.tdiv (f.tgt : Int) 72057594037927936 = (H : Int) := by rw [Int.tdiv_eq_ediv_of_nonneg (by omega)]; exact q1
    have q3 : IntKind.u64.wrap (H : Int) = (H : Int) := IntWalk.u64_in _ (by have := hf.tgt; omega)
    have q4 : IntKind.u64.wrap ((f.tgt : Int) + (sl : Int)) = (S : Int) := by rw [u64_wrap]; omega
    have q5 : (S : Int) % 72057594037927936 = (L : Int) := by omega
    have q6 : Int.tmod (S : Int) 72057594037927936 = (L : Int) := by rw [Int.tmod_eq_emod_of_nonneg (by omega)]; exact q5
    have q7 : IntKind.u64.wrap (L : Int) = (L : Int) := IntWalk.u64_in _ (by omega)
    have q8 : IntKind.u64.wrap ((H : Int) * 72057594037927936) = (H : Int) * 72057594037927936 := IntWalk.u64_in _ (by have := hf.tgt; omega)
    have q9 : IntKind.u64.wrap ((L : Int) + (H : Int) * 72057594037927936) = (R : Int) := (IntWalk.u64_in _ (by have := hf.tgt; omega)).trans (by rw [HR.out]; omega)
    clear hR hH hS hL hs ht
    go_enter Try.func38, Try.ntmps38
    go_wp2_with fail
    go_ret
    exact ⟨rfl, (Below.refl _ _).alloc (Nat.le_refl _) _⟩
  · have hk2 : (f.kind == 1) = false := by rw [beq_eq_false_iff_ne]; exact hk
    have HX := hid (show IntKind.u64.wrap ((tg : Int) + IntKind.u64.wrap f.add) = (((tg + (f.add % 18446744073709551616).toNat) % 18446744073709551616 : Nat) : Int) by rw [u64_wrap, u64_wrap]; omega)
    have HR := hid (show R = _ from hR.trans (if_neg hk))
    clear hR hk
    go_enter Try.func38, Try.ntmps38
    go_wp2_with fail
    rw [HX.out, ← HR.out]
    go_ret
    exact ⟨rfl, (Below.refl _ _).alloc (Nat.le_refl _) _⟩
end Go.Proofs.Ytacmjpkcimjjpaa
