/- The reference's Look: plain laws of what is looked for. -/
import Derived.Test.YtacmjpkcimjjpaaRsB
namespace Go.Proofs.Ytacmjpkcimjjpaa
set_option linter.unusedSimpArgs false
set_option linter.unusedVariables false
open Go.RowKit Go.Maps

def lackP (p q : Int) : Bool := bits .and .i64 q p != p
/-- The same, bit by bit. -/
def lackB (p q : Int) (j : Nat) : Bool := (List.range j).any fun t => p / 2 ^ t % 2 == 1 && q / 2 ^ t % 2 == 0

theorem lackB_three (p q : Int) (hp : 0 ≤ p ∧ p ≤ 7) (hq : 0 ≤ q ∧ q ≤ 7) : lackB p q 3 = lackP p q := by
  obtain ⟨a, rfl⟩ : ∃ a : Nat, p = a := ⟨p.toNat, by omega⟩
  obtain ⟨b, rfl⟩ : ∃ b : Nat, q = b := ⟨q.toNat, by omega⟩
  have h : ∀ a ∈ List.range 8, ∀ b ∈ List.range 8, lackB (a : Int) (b : Int) 3 = lackP (a : Int) (b : Int) := by decide
  exact h a (by simp; omega) b (by simp; omega)

def lackAt (pgs : List Pg) (p : Int) (m : Nat) : Bool := match pgAt pgs m with | some g => lackP p g.prot | none => false

theorem lookL_all {pgs : List Pg} {p : Int} : ∀ {k n : Nat} {e : Int}, (∀ m, n ≤ m → m < n + k → (pgAt pgs m).isSome = true) → lookL pgs p n k e = if (List.range' n k).any (lackAt pgs p) then 19 else e
  | 0, n, e, h => by simp [lookL]
  | k + 1, n, e, h => by
    obtain ⟨g, hg⟩ := Option.isSome_iff_exists.1 (h n (Nat.le_refl _) (by omega))
    rw [lookL_some hg, lookL_all (fun m h1 h2 => h m (by omega) (by omega)), List.range'_succ, List.any_cons]
    have : lackAt pgs p n = lackP p g.prot := by unfold lackAt; rw [hg]
    rw [this]
    unfold lackP
    by_cases h1 : (List.range' (n + 1) k).any (lackAt pgs p) = true
    · rw [if_pos h1, if_pos (by rw [h1, Bool.or_true])]
    · rw [if_neg h1]
      by_cases h2 : (bits .and .i64 g.prot p != p) = true
      · rw [if_pos h2, if_pos (by rw [h2, Bool.true_or])]
      · rw [if_neg h2, if_neg (by rw [Bool.or_eq_true]; exact fun h => h.elim h2 h1)]

theorem lookL_none' {pgs : List Pg} {p : Int} : ∀ {k n : Nat} {e : Int} {m : Nat}, n ≤ m → m < n + k → pgAt pgs m = none → lookL pgs p n k e = 4
  | 0, n, e, m, h1, h2, _ => by omega
  | k + 1, n, e, m, h1, h2, hm => by
    cases hp : pgAt pgs n with
    | none => exact lookL_none hp
    | some g =>
      rw [lookL_some hp]
      exact lookL_none' (m := m) (by have : m ≠ n := fun e => (by rw [e, hp] at hm; cases hm); omega) (by omega) hm

theorem pages_le {pgs : List Pg} {f k : Nat} (h : ∀ m, f ≤ m → m < f + k → (pgAt pgs m).isSome = true) : k ≤ pgs.length := by
  have h1 : (List.range' f k).Nodup := List.nodup_range'
  have h2 : List.range' f k ⊆ pgs.map (·.no) := by
    intro m hm
    rw [List.mem_range'_1] at hm
    obtain ⟨g, hg⟩ := Option.isSome_iff_exists.1 (h m hm.1 hm.2)
    exact List.mem_map.2 ⟨g, (pgAt_mem hg).1, (pgAt_mem hg).2⟩
  have := nodup_le h1 h2
  simpa using this

/-- What lacks the protection among the pages of the first n bytes. -/
def lackN (pgs : List Pg) (p : Int) (a z n : Nat) : Bool := decide (0 < n) && (List.range' (a / 4096) ((a + z - 1) / 4096 + 1 - a / 4096)).any fun m => decide (m * 4096 < a + n) && lackAt pgs p m

theorem lackN_zero (pgs : List Pg) (p : Int) (a z : Nat) : lackN pgs p a z 0 = false := rfl

theorem lackN_see {pgs : List Pg} {p : Int} {a z n : Nat} (hn : n < z) (hv : n = 0 ∨ (a + n) % 4096 = 0 ∨ n + 1 = z) : lackN pgs p a z (n + 1) = (lackN pgs p a z n || lackAt pgs p ((a + n) / 4096)) := by
  rw [Bool.eq_iff_iff]
  simp only [lackN, Bool.or_eq_true, Bool.and_eq_true, List.any_eq_true, List.mem_range'_1, decide_eq_true_eq]
  constructor
  · rintro ⟨-, m, ⟨h1, h2⟩, h3, h4⟩
    by_cases e : m = (a + n) / 4096
    · exact .inr (by rw [← e]; exact h4)
    · have hn0 : n ≠ 0 := by intro h; subst h; omega
      exact .inl ⟨by omega, m, ⟨h1, h2⟩, by omega, h4⟩
  · rintro (⟨h0, m, hm, h3, h4⟩ | h)
    · exact ⟨by omega, m, hm, by omega, h4⟩
    · exact ⟨by omega, (a + n) / 4096, by omega, by omega, h⟩

theorem lackN_skip {pgs : List Pg} {p : Int} {a z n : Nat} (h0 : 0 < n) (hv : (a + n) % 4096 ≠ 0) : lackN pgs p a z (n + 1) = lackN pgs p a z n := by
  rw [Bool.eq_iff_iff]
  simp only [lackN, Bool.and_eq_true, List.any_eq_true, List.mem_range'_1, decide_eq_true_eq]
  constructor
  · rintro ⟨-, m, hm, h3, h4⟩
    exact ⟨h0, m, hm, by omega, h4⟩
  · rintro ⟨-, m, hm, h3, h4⟩
    exact ⟨by omega, m, hm, by omega, h4⟩

/-- The pages of the first n bytes are there. -/
def seenN (pgs : List Pg) (a n : Nat) : Prop := 0 < n → ∀ m, a / 4096 ≤ m → m * 4096 < a + n → (pgAt pgs m).isSome = true

theorem seenN_see {pgs : List Pg} {a n : Nat} (h : seenN pgs a n) (hg : (pgAt pgs ((a + n) / 4096)).isSome = true) : seenN pgs a (n + 1) := by
  intro _ m h1 h2
  by_cases e : m = (a + n) / 4096
  · rw [e]; exact hg
  · rcases Nat.eq_zero_or_pos n with h0 | h0
    · subst h0; omega
    · exact h h0 m h1 (by omega)

theorem seenN_skip {pgs : List Pg} {a n : Nat} (h : seenN pgs a n) (h0 : 0 < n) (hv : (a + n) % 4096 ≠ 0) : seenN pgs a (n + 1) := fun _ m h1 h2 => h h0 m h1 (by omega)

theorem lookE_end {pgs : List Pg} {p : Int} {a z : Nat} (hp : pgs.Pairwise (fun x y => x.no ≠ y.no)) (hin : inB a z = true) (hz : 0 < z) (h : seenN pgs a z) : lookE pgs a z p = if lackN pgs p a z z then 19 else 0 := by
  have hall : ∀ m, a / 4096 ≤ m → m < a / 4096 + ((a + z - 1) / 4096 + 1 - a / 4096) → (pgAt pgs m).isSome = true := fun m h1 h2 => h hz m h1 (by omega)
  have hle := pages_le hall
  unfold lookE
  rw [if_pos hin, if_neg (by rw [size_spD hp]; omega), lookL_all hall]
  congr 1
  rw [eq_iff_iff]
  simp only [lackN, Bool.and_eq_true, List.any_eq_true, List.mem_range'_1, decide_eq_true_eq]
  constructor
  · rintro ⟨m, hm, h4⟩; exact ⟨hz, m, hm, by omega, h4⟩
  · rintro ⟨-, m, hm, h3, h4⟩; exact ⟨m, hm, h4⟩

theorem lookE_miss {pgs : List Pg} {p : Int} {a z n : Nat} (hin : inB a z = true) (hn : n < z) (h : pgAt pgs ((a + n) / 4096) = none) : lookE pgs a z p = 4 := by
  unfold lookE
  rw [if_pos hin]
  split
  · rfl
  · exact lookL_none' (m := (a + n) / 4096) (by omega) (by omega) h

theorem has_some {pgs : List Pg} {a : Nat} {g : Pg} (h : pgAt pgs (a / 4096) = some g) : ∃ i : Nat, pgs[i]? = some g ∧ hasM pgs a = (i : Int) := by
  unfold pgAt at h
  cases hf : pgs.findIdx? (fun g => g.no == a / 4096) with
  | none =>
    rw [List.findIdx?_eq_none_iff] at hf
    have h1 := List.mem_of_find?_eq_some h
    have h2 := List.find?_some h
    rw [hf g h1] at h2; cases h2
  | some i =>
    refine ⟨i, ?_, by unfold hasM; rw [hf]⟩
    rw [← h, List.find?_eq_bind_findIdx?_getElem?, hf]
    rfl

theorem has_none {pgs : List Pg} {a : Nat} (h : pgAt pgs (a / 4096) = none) : hasM pgs a = -1 := by
  unfold pgAt at h
  rw [List.find?_eq_none] at h
  unfold hasM
  rw [List.findIdx?_eq_none_iff.2 (fun x hx => by simpa using h x hx)]
end Go.Proofs.Ytacmjpkcimjjpaa
