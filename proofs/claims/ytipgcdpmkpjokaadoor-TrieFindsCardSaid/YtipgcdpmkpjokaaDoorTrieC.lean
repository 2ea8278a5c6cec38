/- What is said of a name, as the program reads it: number by number at a cursor. -/
import Derived.Test.YtipgcdpmkpjokaaDoorTrieM
import Derived.Laws.BitsAllLaws
namespace Go.Proofs.YtipgcdpmkpjokaaDoor
set_option linter.unusedSimpArgs false
set_option linter.unusedVariables false

def saysC (l : List UInt8) (s : Cu) : Exp × Bool × Cu :=
  match numC l s with
  | (fl, s1) =>
    if bareF fl = 8 then
      match numC l s1 with
      | (o, s2) =>
        match textC l 255 s2 with
        | (t, s3) => (⟨[], 3, fl / 4 % 2 == 1, 0, 0, o, t⟩, !s3.bad, s3)
    else if bareF fl = 0 then
      match numC l s1 with
      | (v, s2) => (⟨[], 1, fl / 4 % 2 == 1, v, 0, 0, []⟩, !s2.bad, s2)
    else if bareF fl = 2 then
      match numC l s1 with
      | (v, s2) => (⟨[], 2, fl / 4 % 2 == 1, v, 0, 0, []⟩, !s2.bad, s2)
    else if bareF fl = 16 then
      match numC l s1 with
      | (v, s2) =>
        match numC l s2 with
        | (r, s3) => (⟨[], 4, fl / 4 % 2 == 1, v, r, 0, []⟩, !s3.bad, s3)
    else (⟨[], 0, fl / 4 % 2 == 1, 0, 0, 0, []⟩, false, s1)

theorem numC_bad (l : List UInt8) (k : Nat) : numC l ⟨k, true⟩ = (0, ⟨k, true⟩) := rfl
theorem textC_bad (l : List UInt8) (m k : Nat) : textC l m ⟨k, true⟩ = ([], ⟨k, true⟩) := rfl
theorem numC_some {l : List UInt8} {k n j : Nat} (h : ulebM (l.drop k) = some (n, j)) : numC l ⟨k, false⟩ = (n, ⟨k + j, false⟩) := by
  unfold numC; rw [if_neg (by simp), h]
theorem numC_none {l : List UInt8} {k : Nat} (h : ulebM (l.drop k) = none) : numC l ⟨k, false⟩ = (0, ⟨k, true⟩) := by
  unfold numC; rw [if_neg (by simp), h]
theorem textC_some {l : List UInt8} {k j : Nat} {t : List UInt8} (h : textR (l.drop k) = some (t, j)) : textC l 255 ⟨k, false⟩ = (t, ⟨k + j, false⟩) := by
  unfold textR at h
  split at h
  · rename_i hc
    cases h
    unfold textC
    rw [if_neg (by simp), if_pos hc, Nat.add_assoc]
  · cases h
theorem textC_none {l : List UInt8} {k : Nat} (h : textR (l.drop k) = none) : textC l 255 ⟨k, false⟩ = ([], ⟨k, true⟩) := by
  unfold textR at h
  split at h
  · cases h
  · rename_i hc
    unfold textC
    rw [if_neg (by simp), if_neg hc]

theorem saysC_R (l : List UInt8) (k : Nat) :
    match saysR (l.drop k) with
    | some (x, n) => saysC l ⟨k, false⟩ = (x, true, ⟨k + n, false⟩)
    | none => (saysC l ⟨k, false⟩).2.1 = false := by
  unfold saysR saysC
  cases h0 : ulebM (l.drop k) with
  | none =>
    rw [numC_none h0]
    simp only [show bareF 0 = 0 from rfl, numC_bad]
    rfl
  | some p =>
    obtain ⟨fl, j⟩ := p
    rw [numC_some h0]
    dsimp only
    unfold saysF
    simp only [List.drop_drop]
    by_cases h8 : bareF fl = 8
    · simp only [h8, if_true]
      cases h1 : ulebM (l.drop (k + j)) with
      | none => simp only [numC_none h1, textC_bad]; rfl
      | some q =>
        obtain ⟨o, j2⟩ := q
        simp only [numC_some h1]
        rw [← Nat.add_assoc]
        cases h2 : textR (l.drop (k + j + j2)) with
        | none => simp only [textC_none h2]; rfl
        | some q2 =>
          obtain ⟨t, j3⟩ := q2
          simp only [textC_some h2, ← Nat.add_assoc]
          rfl
    · simp only [h8, if_false]
      by_cases hz : bareF fl = 0
      · simp only [hz, if_true]
        cases h1 : ulebM (l.drop (k + j)) with
        | none => simp only [numC_none h1]; rfl
        | some q =>
          obtain ⟨o, j2⟩ := q
          simp only [numC_some h1, ← Nat.add_assoc]; rfl
      · simp only [hz, if_false]
        by_cases h2 : bareF fl = 2
        · simp only [h2, if_true]
          cases h1 : ulebM (l.drop (k + j)) with
          | none => simp only [numC_none h1]; rfl
          | some q =>
            obtain ⟨o, j2⟩ := q
            simp only [numC_some h1, ← Nat.add_assoc]; rfl
        · simp only [h2, if_false]
          by_cases h16 : bareF fl = 16
          · simp only [h16, if_true]
            cases h1 : ulebM (l.drop (k + j)) with
            | none => simp only [numC_none h1, numC_bad]; rfl
            | some q =>
              obtain ⟨o, j2⟩ := q
              simp only [numC_some h1]
              rw [← Nat.add_assoc]
              cases h2 : ulebM (l.drop (k + j + j2)) with
              | none => simp only [numC_none h2]; rfl
              | some q2 =>
                obtain ⟨t, j3⟩ := q2
                simp only [numC_some h2, ← Nat.add_assoc]
                rfl
          · simp only [h16, if_false]

theorem bareF_bit (a i : Nat) : (bareF a).testBit i = (a.testBit i && !decide (i = 2)) := by
  rcases Nat.lt_or_ge i 3 with h | h
  · have : i = 0 ∨ i = 1 ∨ i = 2 := by omega
    rcases this with rfl | rfl | rfl
    · simp only [Nat.testBit_eq_decide_div_mod_eq]
      simp
      unfold bareF; split <;> omega
    · simp only [Nat.testBit_eq_decide_div_mod_eq]
      simp
      unfold bareF; split <;> omega
    · simp only [Nat.testBit_eq_decide_div_mod_eq]
      simp
      unfold bareF; split <;> omega
  · obtain ⟨j, rfl⟩ : ∃ j, i = j + 3 := ⟨i - 3, by omega⟩
    rw [← Nat.testBit_div_two_pow, ← Nat.testBit_div_two_pow]
    have e : bareF a / 2 ^ 3 = a / 2 ^ 3 := by unfold bareF; split <;> omega
    rw [e]
    have : decide (j + 3 = 2) = false := decide_eq_false (by omega)
    rw [this]; simp

theorem andNot4 (a : Nat) (h : a < 2 ^ 64) : bits BinOp.andNot IntKind.u64 (a : Int) 4 = (bareF a : Nat) := by
  rw [show (4 : Int) = ((4 : Nat) : Int) from rfl, u64_andNot_nat a 4 (by omega) (by omega)]
  congr 1
  apply Nat.eq_of_testBit_eq
  intro i
  rw [bareF_bit, Nat.testBit_and, show 18446744073709551615 - 4 = 2 ^ 64 - (4 + 1) from rfl, Nat.testBit_two_pow_sub_succ (by omega)]
  by_cases hi : i < 64
  · have : (4 : Nat).testBit i = decide (i = 2) := by
      rw [show (4 : Nat) = 2 ^ 2 from rfl, Nat.testBit_two_pow]
      simp [eq_comm]
    simp [hi, this]
  · have : a.testBit i = false := Nat.testBit_lt_two_pow (Nat.lt_of_lt_of_le h (Nat.pow_le_pow_right (by omega) (by omega)))
    simp [this]

theorem and4 (a : Nat) (h : a < 2 ^ 64) : (bits BinOp.and IntKind.u64 (a : Int) 4 != 0) = (a / 4 % 2 == 1) := by
  rw [show (4 : Int) = ((4 : Nat) : Int) from rfl, and_u64 a 4 (by omega) (by omega)]
  have e : a &&& 4 = a / 4 % 2 * 4 := by
    apply Nat.eq_of_testBit_eq
    intro i
    rw [Nat.testBit_and, show (4 : Nat) = 2 ^ 2 from rfl, Nat.testBit_two_pow, Nat.mul_comm, Nat.testBit_two_pow_mul]
    by_cases hi : 2 = i
    · subst hi
      simp [Nat.testBit_eq_decide_div_mod_eq]
    · simp [hi]
      intro h7
      have hlt : a / 2 ^ 2 % 2 < 2 ^ (i - 2) := Nat.lt_of_lt_of_le (Nat.mod_lt _ (by omega)) (Nat.pow_le_pow_right (show 0 < 2 by omega) (show 1 ≤ i - 2 by omega))
      exact Nat.testBit_lt_two_pow hlt
  rw [e]
  rcases Nat.mod_two_eq_zero_or_one (a / 4) with h0 | h0 <;> rw [h0] <;> rfl

theorem numC_lt {l : List UInt8} {s s' : Cu} {n : Nat} (h : numC l s = (n, s')) : n < 2 ^ 64 := by
  obtain ⟨k, f⟩ := s
  cases f with
  | true => rw [numC_bad] at h; cases h; omega
  | false =>
    cases hu : ulebM (l.drop k) with
    | none => rw [numC_none hu] at h; cases h; omega
    | some p =>
      obtain ⟨m, j⟩ := p
      rw [numC_some hu] at h; cases h
      exact (ulebM_lt hu).1
end Go.Proofs.YtipgcdpmkpjokaaDoor
