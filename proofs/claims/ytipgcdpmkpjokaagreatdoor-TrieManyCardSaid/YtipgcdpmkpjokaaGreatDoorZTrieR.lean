/- What is said of a name, told by just so many bytes: plain laws. No program in sight. -/
import Derived.Test.YtipgcdpmkpjokaaGreatDoorZLebM
namespace Go.Proofs.YtipgcdpmkpjokaaGreatDoor
set_option linter.unusedSimpArgs false
set_option linter.unusedVariables false

theorem ulebF_take1 : ∀ (f m : Nat) (b : List UInt8) (i n : Nat) (r : Nat × Nat), ulebF f (b.take m) i n = some r → ulebF f b i n = some r
  | 0, _, _, _, _, _, h => by cases h
  | f + 1, m, [], i, n, r, h => by simpa using h
  | f + 1, 0, x :: b, i, n, r, h => by simp [ulebF] at h
  | f + 1, m + 1, x :: b, i, n, r, h => by
    rw [List.take_succ_cons, ulebF] at h
    rw [ulebF]
    split at h
    · cases h
    · rename_i h1
      rw [if_neg h1]
      split at h
      · rename_i h2
        rw [if_pos h2]; exact h
      · rename_i h2
        rw [if_neg h2]
        exact ulebF_take1 f m b _ _ r h

theorem ulebF_take2 : ∀ (f m : Nat) (b : List UInt8) (i n v k : Nat), ulebF f b i n = some (v, k) → k ≤ i + m → ulebF f (b.take m) i n = some (v, k)
  | 0, _, _, _, _, _, _, h, _ => by cases h
  | f + 1, m, [], i, n, v, k, h, hk => by simpa using h
  | f + 1, 0, x :: b, i, n, v, k, h, hk => by
    exfalso
    rw [ulebF] at h
    split at h
    · cases h
    · split at h
      · cases h; omega
      · have := ulebF_ge f b _ _ _ _ h
        omega
  | f + 1, m + 1, x :: b, i, n, v, k, h, hk => by
    rw [List.take_succ_cons, ulebF]
    rw [ulebF] at h
    split at h
    · cases h
    · rename_i h1
      rw [if_neg h1]
      split at h
      · rename_i h2
        rw [if_pos h2]; exact h
      · rename_i h2
        rw [if_neg h2]
        exact ulebF_take2 f m b _ _ v k h (by omega)
where
  ulebF_ge : ∀ (f : Nat) (b : List UInt8) (i n v k : Nat), ulebF f b i n = some (v, k) → i < k
    | 0, _, _, _, _, _, h => by cases h
    | f + 1, [], _, _, _, _, h => by cases h
    | f + 1, x :: b, i, n, v, k, h => by
      rw [ulebF] at h
      split at h
      · cases h
      · split at h
        · cases h; omega
        · have := ulebF_ge f b _ _ _ _ h
          omega

theorem uleb1 {m : Nat} {b : List UInt8} {r : Nat × Nat} (h : ulebM (b.take m) = some r) : ulebM b = some r := ulebF_take1 10 m b 0 0 r h
theorem uleb2 {m : Nat} {b : List UInt8} {v k : Nat} (h : ulebM b = some (v, k)) (hk : k ≤ m) : ulebM (b.take m) = some (v, k) := ulebF_take2 10 m b 0 0 v k h (by omega)

theorem nul_take (m : Nat) : ∀ b : List UInt8, nul (b.take m) = min m (nul b) := by
  induction m with
  | zero => intro b; simp [nul]
  | succ m ih =>
    intro b
    cases b with
    | nil => simp [nul]
    | cons x b =>
      rw [List.take_succ_cons, nul_cons, nul_cons, ih]
      split
      · simp
      · omega

theorem text1 {m : Nat} {b : List UInt8} {r : List UInt8 × Nat} (h : textR (b.take m) = some r) : textR b = some r := by
  unfold textR at h ⊢
  have hn := nul_take m b
  have hle := nul_le b
  split at h
  · rename_i hc
    rw [List.length_take, hn] at hc
    have e : nul (b.take m) = nul b := by rw [hn]; omega
    rw [if_pos (by omega)]
    rw [e, List.take_take, Nat.min_eq_left (by omega)] at h
    exact h
  · cases h

theorem text2 {m : Nat} {b : List UInt8} {t : List UInt8} {k : Nat} (h : textR b = some (t, k)) (hk : k ≤ m) : textR (b.take m) = some (t, k) := by
  unfold textR at h ⊢
  have hn := nul_take m b
  split at h
  · rename_i hc
    cases h
    have e : nul (b.take m) = nul b := by rw [hn]; omega
    rw [if_pos (by rw [e, List.length_take]; omega), e, List.take_take, Nat.min_eq_left (by omega)]
  · cases h

theorem text_le {b : List UInt8} {t : List UInt8} {k : Nat} (h : textR b = some (t, k)) : 1 ≤ k ∧ k ≤ b.length := by
  unfold textR at h
  split at h
  · cases h; omega
  · cases h

/-- What is said is said by no more bytes than there are. -/
theorem saysF_le {b : List UInt8} {x : Exp} {k fl k0 : Nat} {wk : Bool} (h0 : 1 ≤ k0 ∧ k0 ≤ b.length) (h : saysF fl wk k0 b = some (x, k)) : 1 ≤ k ∧ k ≤ b.length := by
    unfold saysF at h
    split at h
    · cases h2 : ulebM (b.drop k0) with
      | none => rw [h2] at h; cases h
      | some q =>
        obtain ⟨o, k2⟩ := q
        rw [h2] at h
        dsimp only at h
        have h2' := ulebM_lt h2
        rw [List.length_drop] at h2'
        cases h3 : textR (b.drop (k0 + k2)) with
        | none => rw [h3] at h; cases h
        | some q3 =>
          obtain ⟨t, k3⟩ := q3
          rw [h3] at h
          cases h
          have := text_le h3
          rw [List.length_drop] at this
          omega
    · split at h
      · cases h2 : ulebM (b.drop k0) with
        | none => rw [h2] at h; cases h
        | some q =>
          obtain ⟨o, k2⟩ := q
          rw [h2] at h
          cases h
          have h2' := ulebM_lt h2
          rw [List.length_drop] at h2'
          omega
      · split at h
        · cases h2 : ulebM (b.drop k0) with
          | none => rw [h2] at h; cases h
          | some q =>
            obtain ⟨o, k2⟩ := q
            rw [h2] at h
            cases h
            have h2' := ulebM_lt h2
            rw [List.length_drop] at h2'
            omega
        · split at h
          · cases h2 : ulebM (b.drop k0) with
            | none => rw [h2] at h; cases h
            | some q =>
              obtain ⟨o, k2⟩ := q
              rw [h2] at h
              dsimp only at h
              have h2' := ulebM_lt h2
              rw [List.length_drop] at h2'
              cases h3 : ulebM (b.drop (k0 + k2)) with
              | none => rw [h3] at h; cases h
              | some q3 =>
                obtain ⟨t, k3⟩ := q3
                rw [h3] at h
                cases h
                have := ulebM_lt h3
                rw [List.length_drop] at this
                omega
          · cases h

theorem says_le {b : List UInt8} {x : Exp} {k : Nat} (h : saysR b = some (x, k)) : 1 ≤ k ∧ k ≤ b.length := by
  unfold saysR at h
  cases hu : ulebM b with
  | none => rw [hu] at h; cases h
  | some p =>
    rw [hu] at h
    have h0 := ulebM_lt hu
    exact saysF_le ⟨h0.2.1, h0.2.2.2⟩ h

/-- Read off fewer bytes, it is read off all of them. -/
theorem saysF1 {m fl k0 : Nat} {wk : Bool} {b : List UInt8} {r : Exp × Nat} (h : saysF fl wk k0 (b.take m) = some r) : saysF fl wk k0 b = some r := by
    unfold saysF at h ⊢
    have tail : ∀ {k : Nat} {q : Nat × Nat}, ulebM ((b.take m).drop k) = some q → ulebM (b.drop k) = some q := fun {k q} hq => by
      rw [List.drop_take] at hq; exact uleb1 hq
    split at h
    · rename_i hf
      rw [if_pos hf]
      cases h2 : ulebM ((b.take m).drop k0) with
      | none => rw [h2] at h; cases h
      | some q =>
        rw [h2] at h
        rw [tail h2]
        dsimp only at h ⊢
        cases h3 : textR ((b.take m).drop (k0 + q.2)) with
        | none => rw [h3] at h; cases h
        | some q3 =>
          have e3 := h3
          rw [List.drop_take] at e3
          rw [h3] at h
          rw [text1 e3]
          exact h
    · rename_i hf
      rw [if_neg hf]
      split at h
      · rename_i hf
        rw [if_pos hf]
        cases h2 : ulebM ((b.take m).drop k0) with
        | none => rw [h2] at h; cases h
        | some q => rw [h2] at h; rw [tail h2]; exact h
      · rename_i hf
        rw [if_neg hf]
        split at h
        · rename_i hf
          rw [if_pos hf]
          cases h2 : ulebM ((b.take m).drop k0) with
          | none => rw [h2] at h; cases h
          | some q => rw [h2] at h; rw [tail h2]; exact h
        · rename_i hf
          rw [if_neg hf]
          split at h
          · rename_i hf
            rw [if_pos hf]
            cases h2 : ulebM ((b.take m).drop k0) with
            | none => rw [h2] at h; cases h
            | some q =>
              rw [h2] at h
              rw [tail h2]
              dsimp only at h ⊢
              cases h3 : ulebM ((b.take m).drop (k0 + q.2)) with
              | none => rw [h3] at h; cases h
              | some q3 =>
                rw [h3] at h
                rw [tail h3]
                exact h
          · cases h

theorem says1 {m : Nat} {b : List UInt8} {r : Exp × Nat} (h : saysR (b.take m) = some r) : saysR b = some r := by
  unfold saysR at h ⊢
  cases hu : ulebM (b.take m) with
  | none => rw [hu] at h; cases h
  | some p =>
    rw [hu] at h
    rw [uleb1 hu]
    exact saysF1 h

theorem saysF2 {m fl k0 : Nat} {wk : Bool} {b : List UInt8} {x : Exp} {k : Nat} (h : saysF fl wk k0 b = some (x, k)) (hk : k ≤ m) : k0 ≤ m ∧ saysF fl wk k0 (b.take m) = some (x, k) := by
    unfold saysF at h ⊢
    have tail : ∀ {j : Nat} {v q : Nat}, ulebM (b.drop j) = some (v, q) → j + q ≤ m → ulebM ((b.take m).drop j) = some (v, q) := fun {j v q} hq hj => by
      rw [List.drop_take]; exact uleb2 hq (by omega)
    split at h
    · rename_i hf
      cases h2 : ulebM (b.drop k0) with
      | none => rw [h2] at h; cases h
      | some q =>
        obtain ⟨o, k2⟩ := q
        rw [h2] at h
        dsimp only at h
        cases h3 : textR (b.drop (k0 + k2)) with
        | none => rw [h3] at h; cases h
        | some q3 =>
          obtain ⟨t, k3⟩ := q3
          rw [h3] at h
          cases h
          have e3 : textR ((b.take m).drop (k0 + k2)) = some (t, k3) := by rw [List.drop_take]; exact text2 h3 (by omega)
          refine ⟨by omega, ?_⟩
          rw [if_pos hf, tail h2 (by omega)]
          dsimp only
          rw [e3]
    · rename_i hf
      split at h
      · rename_i hf2
        cases h2 : ulebM (b.drop k0) with
        | none => rw [h2] at h; cases h
        | some q =>
          obtain ⟨o, k2⟩ := q
          rw [h2] at h
          cases h
          refine ⟨by omega, ?_⟩
          rw [if_neg hf, if_pos hf2, tail h2 (by omega)]
      · rename_i hf2
        split at h
        · rename_i hf3
          cases h2 : ulebM (b.drop k0) with
          | none => rw [h2] at h; cases h
          | some q =>
            obtain ⟨o, k2⟩ := q
            rw [h2] at h
            cases h
            refine ⟨by omega, ?_⟩
            rw [if_neg hf, if_neg hf2, if_pos hf3, tail h2 (by omega)]
        · rename_i hf3
          split at h
          · rename_i hf4
            cases h2 : ulebM (b.drop k0) with
            | none => rw [h2] at h; cases h
            | some q =>
              obtain ⟨o, k2⟩ := q
              rw [h2] at h
              dsimp only at h
              cases h3 : ulebM (b.drop (k0 + k2)) with
              | none => rw [h3] at h; cases h
              | some q3 =>
                obtain ⟨t, k3⟩ := q3
                rw [h3] at h
                cases h
                refine ⟨by omega, ?_⟩
                rw [if_neg hf, if_neg hf2, if_neg hf3, if_pos hf4, tail h2 (by omega)]
                dsimp only
                rw [tail h3 (by omega)]
          · cases h

/-- Read off all of them by so many, it is read off these. -/
theorem says2 {m : Nat} {b : List UInt8} {x : Exp} {k : Nat} (h : saysR b = some (x, k)) (hk : k ≤ m) : saysR (b.take m) = some (x, k) := by
  unfold saysR at h ⊢
  cases hu : ulebM b with
  | none => rw [hu] at h; cases h
  | some p =>
    obtain ⟨fl, k0⟩ := p
    rw [hu] at h
    obtain ⟨h1, h2⟩ := saysF2 h hk
    rw [uleb2 hu h1]
    exact h2

/-- Just so many bytes say it. -/
theorem says_just (b : List UInt8) (m : Nat) (hm : m ≤ b.length) (x : Exp) : saysR (b.take m) = some (x, m) ↔ saysR b = some (x, m) :=
  ⟨says1, fun h => says2 h (Nat.le_refl _)⟩

end Go.Proofs.YtipgcdpmkpjokaaGreatDoor
