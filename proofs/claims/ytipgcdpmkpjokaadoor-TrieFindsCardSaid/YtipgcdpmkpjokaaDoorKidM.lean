/- A node's children, child by child at a cursor: plain laws. No program in sight. -/
import Derived.Test.YtipgcdpmkpjokaaDoorTrieC
import Derived.Test.YtipgcdpmkpjokaaDoorCurB
namespace Go.Proofs.YtipgcdpmkpjokaaDoor
set_option linter.unusedSimpArgs false
set_option linter.unusedVariables false

/-- What is still to come of so many children, from a cursor on. -/
def restM (l : List UInt8) (n : Nat) (s : Cu) (acc : List KidM) : Option (List KidM) := if s.bad then none else kidsR l.length n (l.drop s.at_) acc

theorem restM_zero (l : List UInt8) (s : Cu) (acc : List KidM) : restM l 0 s acc = if s.bad then none else some acc := rfl

theorem restM_step (l : List UInt8) (n : Nat) (s s1 s2 : Cu) (acc : List KidM) (t : List UInt8) (to : Nat) (h1 : textC l 255 s = (t, s1)) (h2 : numC l s1 = (to, s2)) :
    restM l (n + 1) s acc = if t = [] then none else if acc.any (fun x => x.edge.head? == t.head?) then none else restM l n s2 (acc ++ [⟨t, placeM to l.length⟩]) := by
  obtain ⟨p, f⟩ := s
  unfold restM
  cases f with
  | true =>
    rw [textC_bad] at h1
    cases h1
    simp
  | false =>
    simp only [Bool.false_eq_true, if_false]
    rw [kidsR]
    cases ht : textR (l.drop p) with
    | none =>
      rw [textC_none ht] at h1
      cases h1
      simp
    | some q =>
      obtain ⟨e, k⟩ := q
      rw [textC_some ht] at h1
      cases h1
      dsimp only
      rw [List.drop_drop]
      cases hu : ulebM (l.drop (p + k)) with
      | none =>
        rw [numC_none hu] at h2
        cases h2
        simp
      | some q2 =>
        obtain ⟨v, k2⟩ := q2
        rw [numC_some hu] at h2
        cases h2
        simp only [Bool.false_eq_true, if_false]
        split
        · rfl
        · split
          · rfl
          · rw [List.drop_drop, Nat.add_assoc]

theorem readM_none {l : List UInt8} {at_ : Nat} (h : ulebM (l.drop at_) = none) : readM l at_ = none := by unfold readM; rw [h]
theorem readM_big {l : List UInt8} {at_ size k : Nat} (h : ulebM (l.drop at_) = some (size, k)) (hb : l.length - (at_ + k) < size) : readM l at_ = none := by unfold readM; rw [h]; dsimp only; rw [if_pos hb]

/-- What is said of a name at a place, where so many bytes are said to say it. -/
def headM (l : List UInt8) (at_ size k : Nat) : Option Exp :=
  if size = 0 then some Exp.zero else match saysR (l.drop (at_ + k)) with
    | none => none
    | some (x, k2) => if k2 = size then some x else none

theorem readM_head {l : List UInt8} {at_ size k : Nat} (h : ulebM (l.drop at_) = some (size, k)) (hb : ¬ l.length - (at_ + k) < size) : readM l at_ =
    match headM l at_ size k with
    | none => none
    | some x =>
      match l[at_ + k + size]? with
      | none => none
      | some m =>
        match kidsR l.length m.toNat (l.drop (at_ + k + size + 1)) [] with
        | none => none
        | some ks => some ⟨decide (0 < size), x, ks⟩ := by
  unfold readM headM
  rw [h]; dsimp only; rw [if_neg hb]
  rfl

theorem readM_no {l : List UInt8} {at_ size k : Nat} (h : ulebM (l.drop at_) = some (size, k)) (hb : headM l at_ size k = none) : readM l at_ = none := by
  by_cases hbig : l.length - (at_ + k) < size
  · exact readM_big h hbig
  · rw [readM_head h hbig, hb]

/-- What a node is, behind what is said. -/
theorem readM_rest {l : List UInt8} {at_ size k : Nat} {x : Exp} (h : ulebM (l.drop at_) = some (size, k)) (hb : ¬ l.length - (at_ + k) < size) (hx : headM l at_ size k = some x) (m : Nat) (s : Cu)
    (hm : num1 l ⟨at_ + k + size, false⟩ = (m, s)) : readM l at_ = (restM l m s []).map (fun ks => ⟨decide (0 < size), x, ks⟩) := by
  rw [readM_head h hb, hx]
  dsimp only
  unfold num1 at hm
  rw [if_neg (by simp)] at hm
  dsimp only at hm
  cases hc : l[at_ + k + size]? with
  | none =>
    rw [hc] at hm
    cases hm
    rfl
  | some y =>
    rw [hc] at hm
    cases hm
    unfold restM
    simp only [Bool.false_eq_true, if_false]
    cases kidsR l.length y.toNat (l.drop (at_ + k + size + 1)) [] <;> rfl

theorem num1_lt {l : List UInt8} {s s' : Cu} {m : Nat} (h : num1 l s = (m, s')) : m < 256 := by
  unfold num1 at h
  split at h
  · cases h; omega
  · split at h
    · rename_i x hx
      cases h
      exact x.toNat_lt
    · cases h; omega

end Go.Proofs.YtipgcdpmkpjokaaDoor
