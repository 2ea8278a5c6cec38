/- Exports are sorted by their names, whatever the names: and what it means that two of them are alike. -/
import Derived.Test.YthhjdkcnkdffcaaGreatZSortE
import Derived.Test.YthhjdkcnkdffcaaGreatZSortM
import Derived.Test.YthhjdkcnkdffcaaGreatZTMay
namespace Go.Proofs.YthhjdkcnkdffcaaGreat
set_option linter.unusedSimpArgs false
set_option linter.unusedVariables false
open Go.RowKit Go.Sort Go.Lib
/-! ### two alike: plain -/
theorem le_ne_lt {x z : Exp} (h : nameLe x z = true) (hne : x.name ≠ z.name) : ltStr x.name z.name = true := by
  unfold nameLe at h
  simp only [Bool.not_eq_true'] at h
  cases h2 : ltStr x.name z.name with
  | true => rfl
  | false => exact absurd (ltStr_anti h2 h) hne
/-- Sorted, and no neighbours alike: they rise. -/
theorem srt_of : ∀ s : List Exp, s.Pairwise (fun a b => nameLe a b = true) → (∀ i x y, s[i]? = some x → s[i + 1]? = some y → x.name ≠ y.name) → Srt s
  | [], _, _ => List.Pairwise.nil
  | [x], _, _ => List.pairwise_singleton _ _
  | x :: z :: r, hp, hn => by
    have hp2 := List.pairwise_cons.1 hp
    have ih := srt_of (z :: r) hp2.2 (fun i a b ha hb => hn (i + 1) a b (by simpa using ha) (by simpa using hb))
    have hxz : ltStr x.name z.name = true := le_ne_lt (hp2.1 z (by simp)) (hn 0 x z rfl rfl)
    refine List.pairwise_cons.2 ⟨fun y hy => ?_, ih⟩
    rcases List.mem_cons.1 hy with rfl | hy
    · exact hxz
    · exact ltStr_trans hxz ((List.pairwise_cons.1 ih).1 y hy)
theorem Srt.apart {s : List Exp} (h : Srt s) : NamesApart s := h.imp (fun h => ltStr_ne h)
theorem apart_perm {a b : List Exp} (hp : a.Perm b) : NamesApart a ↔ NamesApart b := hp.pairwise_iff (fun h e => h e.symm)
/-- Are names apart? -/
def apartB (l : List Exp) : Bool := decide (l.Pairwise (fun x y => x.name ≠ y.name))
theorem apartB_iff (l : List Exp) : apartB l = true ↔ NamesApart l := by unfold apartB; rw [decide_eq_true_eq]; exact Iff.rfl
theorem apart_not {s l : List Exp} (hp : s.Perm l) {i : Nat} {x y : Exp} (hx : s[i]? = some x) (hy : s[i + 1]? = some y) (h : x.name = y.name) : apartB l = false := by
  cases hb : apartB l with
  | false => rfl
  | true =>
    have h1 := (apart_perm hp).2 ((apartB_iff l).1 hb)
    obtain ⟨h2, h3⟩ := List.getElem?_eq_some_iff.1 hx
    obtain ⟨h4, h5⟩ := List.getElem?_eq_some_iff.1 hy
    have := List.pairwise_iff_getElem.1 h1 i (i + 1) h2 h4 (by omega)
    rw [h3, h5] at this
    exact absurd h this
theorem apart_yes {s l : List Exp} (hp : s.Perm l) (hs : s.Pairwise (fun a b => nameLe a b = true)) (hn : ∀ i x y, s[i]? = some x → s[i + 1]? = some y → x.name ≠ y.name) : apartB l = true ∧ s = byNames l := by
  have h1 := (apart_perm hp).1 (srt_of s hs hn).apart
  exact ⟨(apartB_iff l).2 h1, byNames_unique h1 hp hs⟩
theorem byNames_srt {l : List Exp} (h : NamesApart l) : Srt (byNames l) := by
  have h1 : NamesApart (byNames l) := (apart_perm (byNames_perm l)).2 h
  have h2 := byNames_sorted l
  exact (h1.and h2).imp (fun h => le_ne_lt h.2 h.1)
end Go.Proofs.YthhjdkcnkdffcaaGreat

namespace Go.Proofs.YthhjdkcnkdffcaaGreat
set_option linter.unusedSimpArgs false
set_option linter.unusedVariables false
def makeM (l : List Exp) (K : List Knot) (P : List Nat) : List UInt8 × Int :=
  if l.all mayE = false then ([], 2) else if 4096 < l.length then ([], 11) else if l.length = 0 then ([], 0)
  else if apartB l = false then ([], 21) else if 1048576 < (outB K P).length then ([], 11) else (outB K P, 0)
theorem good_of {x : Exp} (h : mayE x = true) (hv : x.value < 2 ^ 64) (hr : x.resolver < 2 ^ 64) (ho : x.ordinal < 2 ^ 64) : GoodX x := by
  unfold mayE textB kindB at h
  simp only [Bool.and_eq_true, decide_eq_true_eq] at h
  obtain ⟨⟨h1, h2, h3, h4⟩, -, h5, h6⟩ := h
  refine ⟨h2, h3, h4, h5, h6, hv, hr, ho, ?_⟩
  split at h1
  · rename_i hk
    exact .inl ⟨hk, by simpa using h1⟩
  · split at h1
    · rename_i hk
      exact .inr (.inl ⟨hk, by simpa using h1⟩)
    · split at h1
      · rename_i hk
        exact .inr (.inr ⟨hk, by simpa using h1⟩)
      · cases h1
theorem sum_le {α : Type _} (f : α → Nat) (C : Nat) : ∀ l : List α, (∀ x ∈ l, f x ≤ C) → (l.map f).sum ≤ l.length * C
  | [], _ => by simp
  | x :: l, h => by
    have ih := sum_le f C l (fun y hy => h y (by simp [hy]))
    have := h x (by simp)
    rw [List.map_cons, List.sum_cons, List.length_cons, Nat.succ_mul]; omega
/-- How many bytes are made, at most. -/
theorem cap_all {l : List Exp} {F : Fo} (h : Tied [] l F) (hg : ∀ y ∈ l, GoodX y) (hl : l.length ≤ 4096) : capB (allK F) ≤ 600000000 := by
  have hmany := h.many
  have h1 : ∀ k ∈ allK F, capK k ≤ 68500 := by
    intro k hk
    have hin := allK_in h (fun y hy => (hg y hy).name3) k hk
    have h2 : (k.kids.map (fun r => r.1.length + 11)).sum ≤ k.kids.length * 266 := by
      refine sum_le _ 266 _ fun r hr => ?_
      obtain ⟨-, ⟨y, hy, p, hp⟩, -⟩ := hin.kids r hr
      have := hp.length_le
      rw [List.length_append] at this
      have := (hg y hy).name2
      omega
    have h3 := hin.few
    have h4 : (saidM k.says).length ≤ 296 := by
      cases hs : k.says with
      | none => simp [saidM]
      | some x => have := saidM_len x; have := (hg x (hin.says x hs)).other2; omega
    unfold capK
    omega
  have h5 := sum_le capK 68500 (allK F) h1
  rw [allK_len] at h5
  unfold capB
  omega
theorem fix_place {K : List Knot} {P : List Nat} (h : Fix K P) : nextP K P = P := h.choose_spec.2
end Go.Proofs.YthhjdkcnkdffcaaGreat
