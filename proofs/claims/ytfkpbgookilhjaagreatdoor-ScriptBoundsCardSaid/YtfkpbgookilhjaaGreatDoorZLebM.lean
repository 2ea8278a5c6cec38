/- Numbers of groups of seven bits, texts, as plain laws: how the program's cursor and the reference's read them. No program in sight. -/
import Derived.Test.YtfkpbgookilhjaaGreatDoorZPlain
namespace Go.Proofs.YtfkpbgookilhjaaGreatDoor
set_option linter.unusedSimpArgs false
set_option linter.unusedVariables false

/-- A cursor's place; has it failed? -/
structure Cu where
  at_ : Nat
  bad : Bool

/-- A group's bits. -/
def grp (x : UInt8) : Nat := x.toNat % 128
theorem grp_lt (x : UInt8) : grp x < 128 := Nat.mod_lt _ (by omega)

/-- The number ahead, and how many bytes it has, group by group. -/
def ulebF : Nat → List UInt8 → Nat → Nat → Option (Nat × Nat)
  | 0, _, _, _ => none
  | _ + 1, [], _, _ => none
  | f + 1, x :: r, i, n =>
    if i = 9 ∧ 1 < grp x then none
    else if x.toNat < 128 then some (n + grp x * 128 ^ i, i + 1)
    else ulebF f r (i + 1) (n + grp x * 128 ^ i)

def ulebM (b : List UInt8) : Option (Nat × Nat) := ulebF 10 b 0 0

/-- As the reference has it: where the number ends. -/
def sizeF : Nat → List UInt8 → Nat → Nat
  | 0, _, _ => 0
  | _ + 1, [], _ => 0
  | f + 1, x :: r, i => if x.toNat < 128 then i + 1 else sizeF f r (i + 1)
def sizeM (b : List UInt8) : Nat := sizeF 10 b 0

/-- The groups' number, the last group first. -/
def valM : List UInt8 → Nat
  | [] => 0
  | x :: r => grp x + 128 * valM r

theorem valM_lt (l : List UInt8) : valM l < 128 ^ l.length := by
  induction l with
  | nil => simp [valM]
  | cons x r ih =>
    have := grp_lt x
    simp only [valM, List.length_cons, Nat.pow_succ]
    omega

theorem sizeF_le : ∀ (f : Nat) (b : List UInt8) (i : Nat), sizeF f b i = 0 ∨ (i < sizeF f b i ∧ sizeF f b i ≤ i + f ∧ sizeF f b i ≤ i + b.length)
  | 0, _, _ => .inl rfl
  | _ + 1, [], _ => .inl rfl
  | f + 1, x :: r, i => by
    rw [sizeF]
    split
    · right; simp only [List.length_cons]; omega
    · rcases sizeF_le f r (i + 1) with h | ⟨h1, h2, h3⟩
      · exact .inl h
      · right; simp only [List.length_cons]; omega

theorem sizeM_le (b : List UInt8) : sizeM b ≤ 10 ∧ sizeM b ≤ b.length := by
  unfold sizeM
  rcases sizeF_le 10 b 0 with h | ⟨h1, h2, h3⟩ <;> omega

/-- What the groups' number is, by where it ends. -/
theorem ulebF_size : ∀ (f : Nat) (b : List UInt8) (i n : Nat), f + i = 10 → n < 128 ^ i →
    ulebF f b i n = if sizeF f b i = 0 then none else if n + 128 ^ i * valM (b.take (sizeF f b i - i)) < 2 ^ 64 then some (n + 128 ^ i * valM (b.take (sizeF f b i - i)), sizeF f b i) else none
  | 0, _, _, _, _, _ => rfl
  | _ + 1, [], _, _, _, _ => rfl
  | f + 1, x :: r, i, n, hf, hn => by
    have hg := grp_lt x
    have hp : 128 ^ (i + 1) = 128 ^ i * 128 := by rw [Nat.pow_succ]
    rw [ulebF, sizeF]
    by_cases hx : x.toNat < 128
    · have e1 : i + 1 - i = 1 := by omega
      have e0 : ¬ i + 1 = 0 := by omega
      have e2 : valM ((x :: r).take 1) = grp x := by simp [valM]
      simp only [hx, if_true, e0, if_false, e1, e2]
      rw [Nat.mul_comm (128 ^ i)]
      by_cases h9 : i = 9
      · subst h9
        have h128 : (128 : Nat) ^ 9 = 9223372036854775808 := by decide
        rw [h128] at hn ⊢
        by_cases hgx : 1 < grp x
        · rw [if_pos ⟨rfl, hgx⟩, if_neg (by omega)]
        · rw [if_neg (by omega), if_pos (by omega)]
      · have hi : 128 ^ i * 128 ≤ 128 ^ 9 := by rw [← Nat.pow_succ]; exact Nat.pow_le_pow_right (by omega) (by omega)
        have h128 : (128 : Nat) ^ 9 = 9223372036854775808 := by decide
        have hm : grp x * 128 ^ i ≤ 127 * 128 ^ i := Nat.mul_le_mul_right _ (by omega)
        rw [if_neg (by omega), if_pos (by omega)]
    · simp only [hx, if_false]
      have hn' : n + grp x * 128 ^ i < 128 ^ (i + 1) := by
        have hm : grp x * 128 ^ i ≤ 127 * 128 ^ i := Nat.mul_le_mul_right _ (by omega)
        omega
      by_cases h9 : i = 9
      · subst h9
        obtain rfl : f = 0 := by omega
        simp [ulebF, sizeF]
      · rw [if_neg (by omega), ulebF_size f r (i + 1) _ (by omega) hn']
        rcases sizeF_le f r (i + 1) with h0 | ⟨h1, h2, h3⟩
        · rw [h0]; simp
        · obtain ⟨k, hk⟩ : ∃ k, sizeF f r (i + 1) = i + 1 + k + 1 := ⟨sizeF f r (i + 1) - i - 2, by omega⟩
          rw [hk]
          have e1 : i + 1 + k + 1 - (i + 1) = k + 1 := by omega
          have e2 : i + 1 + k + 1 - i = k + 2 := by omega
          rw [e1, e2]
          have e3 : valM ((x :: r).take (k + 2)) = grp x + 128 * valM (r.take (k + 1)) := rfl
          rw [e3, hp]
          have e4 : n + grp x * 128 ^ i + 128 ^ i * 128 * valM (r.take (k + 1)) = n + 128 ^ i * (grp x + 128 * valM (r.take (k + 1))) := by
            rw [Nat.mul_add, Nat.mul_comm (grp x), ← Nat.mul_assoc, ← Nat.add_assoc]
          rw [e4]

theorem ulebM_size (b : List UInt8) : ulebM b = if sizeM b = 0 then none else if valM (b.take (sizeM b)) < 2 ^ 64 then some (valM (b.take (sizeM b)), sizeM b) else none := by
  have h := ulebF_size 10 b 0 0 rfl (by simp)
  simp only [Nat.pow_zero, Nat.one_mul, Nat.zero_add, Nat.sub_zero] at h
  exact h

theorem ulebM_lt {b : List UInt8} {n k : Nat} (h : ulebM b = some (n, k)) : n < 2 ^ 64 ∧ 1 ≤ k ∧ k ≤ 10 ∧ k ≤ b.length := by
  rw [ulebM_size] at h
  have hs := sizeM_le b
  split at h
  · cases h
  · split at h
    · rename_i h0 h1
      cases h
      exact ⟨h1, by omega, hs.1, hs.2⟩
    · cases h

/-- A number at a cursor's place: 0 where none stands there, and then it has failed. -/
def numC (l : List UInt8) (s : Cu) : Nat × Cu :=
  if s.bad then (0, s)
  else match ulebM (l.drop s.at_) with
    | some (n, k) => (n, ⟨s.at_ + k, false⟩)
    | none => (0, ⟨s.at_, true⟩)

/-- A text at a cursor's place, of at most so many bytes. -/
def textC (l : List UInt8) (most : Nat) (s : Cu) : List UInt8 × Cu :=
  if s.bad then ([], s)
  else if nul (l.drop s.at_) < (l.drop s.at_).length ∧ nul (l.drop s.at_) ≤ most then ((l.drop s.at_).take (nul (l.drop s.at_)), ⟨s.at_ + nul (l.drop s.at_) + 1, false⟩)
  else ([], ⟨s.at_, true⟩)

theorem numC_le {l : List UInt8} {s : Cu} (h : s.at_ ≤ l.length) : (numC l s).2.at_ ≤ l.length := by
  unfold numC
  split
  · exact h
  · cases hu : ulebM (l.drop s.at_) with
    | none => exact h
    | some p =>
      obtain ⟨n, k⟩ := p
      have := (ulebM_lt hu).2.2.2
      rw [List.length_drop] at this
      show s.at_ + k ≤ l.length
      omega

theorem textC_le {l : List UInt8} {most : Nat} {s : Cu} (h : s.at_ ≤ l.length) : (textC l most s).2.at_ ≤ l.length := by
  unfold textC
  split
  · exact h
  · split
    · rename_i h1 h2
      rw [List.length_drop] at h2
      show s.at_ + nul (l.drop s.at_) + 1 ≤ l.length
      omega
    · exact h

end Go.Proofs.YtfkpbgookilhjaaGreatDoor
