/- What is said of a name, step by step: plain laws. No program in sight. -/
import Derived.Test.YtipgcdpmkpjokaaDoorDownM
namespace Go.Proofs.YtipgcdpmkpjokaaDoor
set_option linter.unusedSimpArgs false
set_option linter.unusedVariables false

section
variable {l name : List UInt8} {f : Nat} {at_ : Int} {rest : List UInt8} {walk : List Int}

theorem findF_lost (h : at_ < 0 ∨ walk.contains at_ = true) : findF l name (f + 1) at_ rest walk = (Exp.zero, false, 12) := by rw [findF, if_pos h]
theorem findF_none (h : ¬ (at_ < 0 ∨ walk.contains at_ = true)) (hr : readM l at_.toNat = none) : findF l name (f + 1) at_ rest walk = (Exp.zero, false, 12) := by rw [findF, if_neg h, hr]
theorem findF_here {n : NodeM} (h : ¬ (at_ < 0 ∨ walk.contains at_ = true)) (hr : readM l at_.toNat = some n) (h0 : rest = []) : findF l name (f + 1) at_ rest walk = if n.ends then ({ n.says with name := name }, true, 0) else (Exp.zero, false, 0) := by
  rw [findF, if_neg h, hr]; dsimp only; rw [if_pos h0]
theorem findF_out {n : NodeM} (h : ¬ (at_ < 0 ∨ walk.contains at_ = true)) (hr : readM l at_.toNat = some n) (h0 : rest ≠ []) (hk : n.kids.find? (fun k => k.edge.isPrefixOf rest) = none) : findF l name (f + 1) at_ rest walk = (Exp.zero, false, 0) := by
  rw [findF, if_neg h, hr]; dsimp only; rw [if_neg h0, hk]
theorem findF_on {n : NodeM} {k : KidM} (h : ¬ (at_ < 0 ∨ walk.contains at_ = true)) (hr : readM l at_.toNat = some n) (h0 : rest ≠ []) (hk : n.kids.find? (fun k => k.edge.isPrefixOf rest) = some k) :
    findF l name (f + 1) at_ rest walk = findF l name f k.to (rest.drop k.edge.length) (walk ++ [at_]) := by
  rw [findF, if_neg h, hr]; dsimp only; rw [if_neg h0, hk]
end

instance : Inhabited KidM := ⟨⟨[], 0⟩⟩

/-- The first child that goes on. -/
theorem find_at {l : List KidM} {p : KidM → Bool} {k : KidM} (h : l.find? p = some k) : ∃ i : Nat, l[i]? = some k ∧ p k = true ∧ ∀ j : Nat, j < i → p l[j]! = false := by
  induction l with
  | nil => cases h
  | cons y l ih =>
    rw [List.find?_cons] at h
    cases hy : p y with
    | true =>
      rw [hy] at h
      cases h
      exact ⟨0, rfl, hy, fun j hj => absurd hj (Nat.not_lt_zero _)⟩
    | false =>
      rw [hy] at h
      obtain ⟨i, h1, h2, h3⟩ := ih h
      refine ⟨i + 1, by simpa using h1, h2, fun j hj => ?_⟩
      cases j with
      | zero => simpa using hy
      | succ j => simpa using h3 j (by omega)

theorem find_not {l : List KidM} {p : KidM → Bool} (h : l.find? p = none) : ∀ j, j < l.length → p l[j]! = false := by
  intro j hj
  have := List.find?_eq_none.1 h (l[j]) (List.getElem_mem hj)
  rw [getElem!_pos l j hj]
  simpa using this

/-- Of what is left of the name, as many steps are enough. -/
theorem findF_fuel {l name : List UInt8} : ∀ {f g : Nat} {at_ : Int} {rest : List UInt8} {walk : List Int}, rest.length < f → rest.length < g → findF l name f at_ rest walk = findF l name g at_ rest walk
  | 0, _, _, _, _, h, _ => absurd h (Nat.not_lt_zero _)
  | _, 0, _, _, _, _, h => absurd h (Nat.not_lt_zero _)
  | f + 1, g + 1, at_, rest, walk, hf, hg => by
    by_cases hl : at_ < 0 ∨ walk.contains at_ = true
    · rw [findF_lost hl, findF_lost hl]
    · cases hr : readM l at_.toNat with
      | none => rw [findF_none hl hr, findF_none hl hr]
      | some n =>
        by_cases h0 : rest = []
        · rw [findF_here hl hr h0, findF_here hl hr h0]
        · cases hk : n.kids.find? (fun k => k.edge.isPrefixOf rest) with
          | none => rw [findF_out hl hr h0 hk, findF_out hl hr h0 hk]
          | some k =>
            rw [findF_on hl hr h0 hk, findF_on hl hr h0 hk]
            have h1 := List.length_pos_iff.2 ((readM_kids hr).1 k (List.mem_of_find?_eq_some hk)).1
            have h2 := List.length_pos_iff.2 h0
            exact findF_fuel (by rw [List.length_drop]; omega) (by rw [List.length_drop]; omega)
end Go.Proofs.YtipgcdpmkpjokaaDoor
