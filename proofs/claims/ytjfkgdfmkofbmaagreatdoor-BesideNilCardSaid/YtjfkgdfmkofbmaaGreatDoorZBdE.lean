/- Sorted numbers, each kept once: plain. -/
import Derived.Test.YtjfkgdfmkofbmaaGreatDoorZBdA
import Derived.Lib.SlicesCompact
namespace Go.Proofs.YtjfkgdfmkofbmaaGreatDoor
set_option linter.unusedSimpArgs false
set_option linter.unusedVariables false
open Go.Lib

/-- Off a rising list of numbers what Compact keeps: rising strictly, the same members. -/
theorem compact_up (zs : List Int) (h : zs.Pairwise (· ≤ ·)) : (compact zs).Pairwise (· < ·) ∧ ∀ x, x ∈ compact zs ↔ x ∈ zs := by
  have hk : ∀ j, j < zs.length → (keeps zs.toArray j = true ↔ j = 0 ∨ zs[j]! ≠ zs[j - 1]!) := fun j hj => by
    unfold keeps
    simp
  have hmono : ∀ i j, i ≤ j → j < zs.length → zs[i]! ≤ zs[j]! := fun i j hij hj => by
    rcases Nat.eq_or_lt_of_le hij with rfl | hlt
    · exact Int.le_refl _
    · have := List.pairwise_iff_getElem.1 h i j (by omega) hj hlt
      rw [getElem!_pos zs i (by omega), getElem!_pos zs j hj]
      exact this
  have hmem : ∀ j, j ∈ (List.range zs.toArray.size).filter (keeps zs.toArray) → j < zs.length ∧ (j = 0 ∨ zs[j]! ≠ zs[j - 1]!) := fun j hj => by
    obtain ⟨h1, h2⟩ := List.mem_filter.1 hj
    have h3 : j < zs.length := by simpa using h1
    exact ⟨h3, (hk j h3).1 h2⟩
  have e : compact zs = ((List.range zs.toArray.size).filter (keeps zs.toArray)).map (fun j => zs[j]!) := by
    unfold compact compactUpTo
    simp
  rw [e]
  constructor
  · rw [List.pairwise_map]
    refine List.Pairwise.imp_of_mem ?_ (List.Pairwise.filter _ (List.pairwise_lt_range (n := zs.toArray.size)))
    intro i j hi hj hij
    obtain ⟨j1, j2⟩ := hmem j hj
    have h1 := hmono i (j - 1) (by omega) (by omega)
    have h2 := hmono (j - 1) j (by omega) j1
    rcases j2 with j2 | j2
    · omega
    · omega
  · intro x
    rw [List.mem_map]
    constructor
    · rintro ⟨j, hj, rfl⟩
      have := (hmem j hj).1
      rw [getElem!_pos zs j this]
      exact List.getElem_mem this
    · intro hx
      obtain ⟨i, hi, rfl⟩ := List.getElem_of_mem hx
      have key : ∀ n i (hi : i < zs.length), i ≤ n → ∃ j, j ∈ (List.range zs.toArray.size).filter (keeps zs.toArray) ∧ zs[j]! = zs[i]! := by
        intro n
        induction n with
        | zero =>
          intro i hi hn
          refine ⟨i, List.mem_filter.2 ⟨by simpa using hi, (hk i hi).2 (.inl (by omega))⟩, rfl⟩
        | succ n ih =>
          intro i hi hn
          by_cases hc : i = 0 ∨ zs[i]! ≠ zs[i - 1]!
          · exact ⟨i, List.mem_filter.2 ⟨by simpa using hi, (hk i hi).2 hc⟩, rfl⟩
          · have hc1 : ¬ i = 0 := fun h => hc (.inl h)
            have hc2 : zs[i]! = zs[i - 1]! := Decidable.not_not.1 (fun h => hc (.inr h))
            obtain ⟨j, h1, h2⟩ := ih (i - 1) (by omega) (by omega)
            exact ⟨j, h1, h2.trans hc2.symm⟩
      obtain ⟨j, h1, h2⟩ := key i i hi (Nat.le_refl _)
      exact ⟨j, h1, by rw [h2, getElem!_pos zs i hi]⟩
end Go.Proofs.YtjfkgdfmkofbmaaGreatDoor

namespace Go.Proofs.YtjfkgdfmkofbmaaGreatDoor
set_option linter.unusedSimpArgs false
set_option linter.unusedVariables false
open Go.Lib

def intsZ (l : List Nat) : List Int := l.map (fun n : Nat => (n : Int))
def tidyI (E : List Nat) : List Int := compact ((intsZ E).mergeSort fun x y => decide (x ≤ y))
def tidyN (E : List Nat) : List Nat := (tidyI E).map Int.toNat
theorem sorted_I (zs : List Int) : (zs.mergeSort fun x y => decide (x ≤ y)).Pairwise (· ≤ ·) := by
  have h := List.pairwise_mergeSort (le := fun x y : Int => decide (x ≤ y)) (fun a b c h1 h2 => by simp at *; omega) (fun a b => by simp; omega) zs
  exact h.imp (fun h => by simpa using h)
theorem mem_tidyI (E : List Nat) (x : Int) : x ∈ tidyI E ↔ ∃ n ∈ E, (n : Int) = x := by
  unfold tidyI
  rw [(compact_up _ (sorted_I _)).2 x, (List.mergeSort_perm _ _).mem_iff]
  unfold intsZ
  rw [List.mem_map]
theorem tidyN_I (E : List Nat) : intsZ (tidyN E) = tidyI E := by
  unfold tidyN intsZ
  rw [List.map_map]
  refine (List.map_congr_left fun x hx => ?_).trans (List.map_id _)
  obtain ⟨n, -, rfl⟩ := (mem_tidyI E x).1 hx
  simp
theorem mem_tidyN (E : List Nat) (n : Nat) : n ∈ tidyN E ↔ n ∈ E := by
  unfold tidyN
  rw [List.mem_map]
  constructor
  · rintro ⟨x, hx, rfl⟩
    obtain ⟨m, hm, rfl⟩ := (mem_tidyI E x).1 hx
    simpa using hm
  · exact fun h => ⟨(n : Int), (mem_tidyI E _).2 ⟨n, h, rfl⟩, by simp⟩
theorem tidyN_up (E : List Nat) : (tidyN E).Pairwise (· < ·) := by
  have h := (compact_up _ (sorted_I (intsZ E))).1
  have e : compact ((intsZ E).mergeSort fun x y => decide (x ≤ y)) = intsZ (tidyN E) := (tidyN_I E).symm
  rw [e] at h
  unfold intsZ at h
  rw [List.pairwise_map] at h
  exact h.imp (fun h => by omega)
theorem tidy_bnds (a b : List Pz) : Bnds (tidyN (endsZ (a ++ b))) a b :=
  ⟨tidyN_up _, fun e => by rw [mem_tidyN]; unfold endsZ; rw [List.flatMap_append, List.mem_append]⟩
end Go.Proofs.YtjfkgdfmkofbmaaGreatDoor
