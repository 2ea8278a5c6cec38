/- Bytes laid together: what the last piece is, what each is: plain. -/
import Derived.Test.YthlnjfnjmjdohaaZBdA
namespace Go.Proofs.Ythlnjfnjmjdohaa
set_option linter.unusedSimpArgs false
set_option linter.unusedVariables false

theorem pieces_snoc (l : List Cz) (c : Cz) : piecesZ (l ++ [c]) = pushC (piecesZ l) c := by unfold piecesZ; rw [List.foldl_append]; rfl
theorem pushC_nil (c : Cz) : pushC [] c = [⟨c.at_, c.prot, [c.b]⟩] := rfl
theorem pushC_snoc (l : List Pz) (p : Pz) (c : Cz) : pushC (l ++ [p]) c = if p.end_ = c.at_ ∧ p.prot = c.prot then l ++ [⟨p.at_, p.prot, p.bytes ++ [c.b]⟩] else l ++ [p] ++ [⟨c.at_, c.prot, [c.b]⟩] := by
  rw [pushC_put, putP_snoc]
theorem list_snoc_ind {α : Type} {P : List α → Prop} (h0 : P []) (h1 : ∀ l a, P l → P (l ++ [a])) : ∀ l, P l := by
  intro l
  have : ∀ l : List α, P l.reverse := by
    intro l
    induction l with
    | nil => exact h0
    | cons a l ih => rw [List.reverse_cons]; exact h1 _ _ ih
  have := this l.reverse
  rwa [List.reverse_reverse] at this
/-- The last piece ends behind the last byte. -/
theorem pieces_last (l : List Cz) (c : Cz) : ∃ init p, piecesZ (l ++ [c]) = init ++ [p] ∧ p.end_ = c.at_ + 1 ∧ p.prot = c.prot := by
  rw [pieces_snoc]
  rcases last_cases (piecesZ l) with h | ⟨m, p, h⟩
  · rw [h, pushC_nil]; exact ⟨[], _, rfl, rfl, rfl⟩
  · rw [h, pushC_snoc]
    split
    · rename_i e
      exact ⟨m, _, rfl, by simp only [Pz.end_] at e ⊢; rw [List.length_append]; simp; omega, e.2⟩
    · exact ⟨m ++ [p], _, rfl, rfl, rfl⟩
theorem pieces_ok (l : List Cz) (h : ∀ c ∈ l, c.at_ < MAXA) : ∀ p ∈ piecesZ l, p.bytes ≠ [] ∧ p.end_ ≤ MAXA := by
  revert h
  refine list_snoc_ind (P := fun l => (∀ c ∈ l, c.at_ < MAXA) → ∀ p ∈ piecesZ l, p.bytes ≠ [] ∧ p.end_ ≤ MAXA) (fun _ p hp => by cases hp) (fun l c ih hl => ?_) l
  have hc := hl c (by simp)
  have ih := ih (fun x hx => hl x (by simp [hx]))
  rw [pieces_snoc]
  rcases last_cases (piecesZ l) with h | ⟨m, p, h⟩
  · rw [h, pushC_nil]
    intro p hp
    rw [List.mem_singleton] at hp; subst hp
    exact ⟨by simp, hc⟩
  · rw [h] at ih ⊢
    rw [pushC_snoc]
    split
    · rename_i e
      intro q hq
      rcases List.mem_append.1 hq with hq | hq
      · exact ih q (List.mem_append_left _ hq)
      · rw [List.mem_singleton] at hq; subst hq
        refine ⟨by simp, ?_⟩
        simp only [Pz.end_] at e ⊢
        rw [List.length_append]; simp; omega
    · intro q hq
      rcases List.mem_append.1 hq with hq | hq
      · exact ih q hq
      · rw [List.mem_singleton] at hq; subst hq
        exact ⟨by simp, hc⟩
theorem pieces_len (l : List Cz) : (piecesZ l).length ≤ l.length := by
  refine list_snoc_ind (P := fun l => (piecesZ l).length ≤ l.length) (Nat.le_refl _) (fun l c ih => ?_) l
  rw [pieces_snoc, List.length_append]
  rcases last_cases (piecesZ l) with h | ⟨m, p, h⟩
  · rw [h, pushC_nil]; simp
  · rw [h] at ih ⊢
    rw [pushC_snoc]
    split <;> simp at ih ⊢ <;> omega
theorem cells_max {n : Nat} {l : List Pz} (h : Srt n l) : ∀ c ∈ cellsZ l, c.at_ < MAXA := fun c hc => (h.lows c hc).2.1
end Go.Proofs.Ythlnjfnjmjdohaa

namespace Go.Proofs.Ythlnjfnjmjdohaa
set_option linter.unusedSimpArgs false
set_option linter.unusedVariables false

theorem parts_a {a b : List Pz} {bs : List Nat} (ha : Srt 0 a) (hb : Srt 0 b) (h : Bnds bs a b) : (partsZ a b bs).flatMap (fun r => cellsAt r.p r.at_ r.a) = cellsZ a := by
  obtain ⟨u, m⟩ := parts_cells ha hb h (fun r => cellsAt r.p r.at_ r.a) (fun c => c ∈ cellsZ a) (fun x r ok => ⟨up_cellsAt _ _ _, fun c => by rw [← ok.wa, mem_win]; exact ⟨fun h => ⟨h.2.1, h.2.2, h.1⟩, fun h => ⟨h.2.2, h.1, h.2.1⟩⟩⟩) (fun c hc => ⟨c, .inl hc, rfl⟩)
  exact up_ext u ha.up m
theorem parts_b {a b : List Pz} {bs : List Nat} (ha : Srt 0 a) (hb : Srt 0 b) (h : Bnds bs a b) : (partsZ a b bs).flatMap (fun r => cellsAt r.q r.at_ r.b) = cellsZ b := by
  obtain ⟨u, m⟩ := parts_cells ha hb h (fun r => cellsAt r.q r.at_ r.b) (fun c => c ∈ cellsZ b) (fun x r ok => ⟨up_cellsAt _ _ _, fun c => by rw [← ok.wb, mem_win]; exact ⟨fun h => ⟨h.2.1, h.2.2, h.1⟩, fun h => ⟨h.2.2, h.1, h.2.1⟩⟩⟩) (fun c hc => ⟨c, .inr hc, rfl⟩)
  exact up_ext u hb.up m
def sumA (l : List Pt) : Nat := (l.map (fun r => r.a.length)).sum
theorem sum_cells (l : List Pt) : (l.flatMap (fun r => cellsAt r.p r.at_ r.a)).length = sumA l := by
  unfold sumA
  induction l with
  | nil => rfl
  | cons r l ih => rw [List.flatMap_cons, List.length_append, ih, cellsAt_length, List.map_cons, List.sum_cons]
theorem sumA_app (l m : List Pt) : sumA (l ++ m) = sumA l + sumA m := by unfold sumA; rw [List.map_append, List.sum_append]
theorem sumA_snoc (l : List Pt) (r : Pt) : sumA (l ++ [r]) = sumA l + r.a.length := by rw [sumA_app]; unfold sumA; simp
theorem pushD_len (l : List Gz) (d : Dz) : (pushD l d).length ≤ l.length + 1 := by
  rcases List.eq_nil_or_concat l with rfl | ⟨m, g, rfl⟩
  · exact Nat.le_refl _
  · rw [List.concat_eq_append, pushD_snoc]
    split <;> simp
theorem pushD_fold (ds : List Dz) : ∀ l : List Gz, (ds.foldl pushD l).length ≤ l.length + ds.length := by
  induction ds with
  | nil => intro l; exact Nat.le_refl _
  | cons d ds ih =>
    intro l
    rw [List.foldl_cons, List.length_cons]
    have := ih (pushD l d)
    have := pushD_len l d
    omega
theorem diffs_len : ∀ (a : Nat) (l m : List UInt8), (diffsZ a l m).length ≤ l.length
  | a, [], m => by cases m <;> simp [diffsZ]
  | a, x :: l, [] => by simp [diffsZ]
  | a, x :: l, y :: m => by
    have := diffs_len (a + 1) l m
    unfold diffsZ
    split <;> simp <;> omega
/-- How long the rows are. -/
theorem step_lens (l : List Pt) : ∀ x : Rz, (l.foldl stepZ x).lost.length ≤ x.lost.length + l.length ∧ (l.foldl stepZ x).gained.length ≤ x.gained.length + l.length ∧ (l.foldl stepZ x).patches.length ≤ x.patches.length + sumA l := by
  have plen : ∀ (l : List Pz) (a : Nat) (q : Int) (bs : List UInt8), (putP l a q bs).length ≤ l.length + 1 := fun l a q bs => by
    rcases last_cases l with rfl | ⟨m, p, rfl⟩
    · exact Nat.le_refl _
    · rw [putP_snoc]
      split <;> simp
  induction l with
  | nil => intro x; exact ⟨Nat.le_refl _, Nat.le_refl _, Nat.le_refl _⟩
  | cons r l ih =>
    intro x
    rw [List.foldl_cons, List.length_cons]
    obtain ⟨h1, h2, h3⟩ := ih (stepZ x r)
    have e : sumA (r :: l) = r.a.length + sumA l := rfl
    rw [e]
    have k : (stepZ x r).lost.length ≤ x.lost.length + 1 ∧ (stepZ x r).gained.length ≤ x.gained.length + 1 ∧ (stepZ x r).patches.length ≤ x.patches.length + r.a.length := by
      unfold stepZ
      split
      · have := pushD_fold (diffsZ r.at_ r.a r.b) x.patches
        have := diffs_len r.at_ r.a r.b
        exact ⟨Nat.le_succ _, Nat.le_succ _, by dsimp only; omega⟩
      · refine ⟨?_, ?_, by dsimp only; omega⟩
        · dsimp only; split
          · exact plen _ _ _ _
          · exact Nat.le_succ _
        · dsimp only; split
          · exact plen _ _ _ _
          · exact Nat.le_succ _
    omega
theorem diffs_drop {a i : Nat} {l m : List UInt8} {x y : UInt8} (h1 : l[i]? = some x) (h2 : m[i]? = some y) : diffsZ (a + i) (l.drop i) (m.drop i) = if x = y then diffsZ (a + (i + 1)) (l.drop (i + 1)) (m.drop (i + 1)) else ⟨a + i, x, y⟩ :: diffsZ (a + (i + 1)) (l.drop (i + 1)) (m.drop (i + 1)) := by
  obtain ⟨a1, rfl⟩ := List.getElem?_eq_some_iff.1 h1
  obtain ⟨a2, rfl⟩ := List.getElem?_eq_some_iff.1 h2
  rw [List.drop_eq_getElem_cons a1, List.drop_eq_getElem_cons a2]
  conv => lhs; unfold diffsZ
  rfl
theorem diffs_nil {a : Nat} {l m : List UInt8} (h : l = []) : diffsZ a l m = [] := by
  subst h; cases m <;> rfl
end Go.Proofs.Ythlnjfnjmjdohaa

namespace Go.Proofs.Ythlnjfnjmjdohaa
set_option linter.unusedSimpArgs false
set_option linter.unusedVariables false

theorem merge_nil (y : List Cz) : mergeR [] y = ([], y, []) := by unfold mergeR; rfl
theorem merge_nilr (x : List Cz) : mergeR x [] = (x, [], []) := by cases x <;> (unfold mergeR; rfl)
/-- What is still to come, and what was told. -/
structure RmI (x y : List Cz) (i k : Nat) (Cl Cg : List Cz) (P : List Gz) (last : Nat) : Prop where
  l : Cl ++ (mergeR (x.drop i) (y.drop k)).1 = (mergeR x y).1
  g : Cg ++ (mergeR (x.drop i) (y.drop k)).2.1 = (mergeR x y).2.1
  p : (mergeR (x.drop i) (y.drop k)).2.2.foldl pushD P = (mergeR x y).2.2.foldl pushD []
  last : P = [] ∨ ∃ init q, P = init ++ [q] ∧ q.at_ + q.old.length = last + 1
  ok : ∀ q ∈ P, q.old ≠ [] ∧ q.new.length = q.old.length ∧ q.at_ + q.old.length ≤ MAXA
  cl : Cl.length ≤ i
  cg : Cg.length ≤ k
  cp : P.length ≤ i
theorem rm_start (x y : List Cz) : RmI x y 0 0 [] [] [] 0 := ⟨rfl, rfl, rfl, .inl rfl, (fun q hq => by cases hq), Nat.le_refl _, Nat.le_refl _, Nat.le_refl _⟩
theorem drop_at {α : Type} {l : List α} {i : Nat} {a : α} (h : l[i]? = some a) : l.drop i = a :: l.drop (i + 1) := by
  obtain ⟨h1, rfl⟩ := List.getElem?_eq_some_iff.1 h
  exact List.drop_eq_getElem_cons h1
section
variable {x y : List Cz} {i k : Nat} {Cl Cg : List Cz} {P : List Gz} {last : Nat} {c d : Cz}
/-- A byte is lost. -/
theorem RmI.lost (h : RmI x y i k Cl Cg P last) (hc : x[i]? = some c) (hd : y.length ≤ k ∨ ∃ d, y[k]? = some d ∧ c.at_ < d.at_) : RmI x y (i + 1) k (Cl ++ [c]) Cg P last := by
  have e : mergeR (x.drop i) (y.drop k) = (c :: (mergeR (x.drop (i + 1)) (y.drop k)).1, (mergeR (x.drop (i + 1)) (y.drop k)).2.1, (mergeR (x.drop (i + 1)) (y.drop k)).2.2) := by
    rw [drop_at hc]
    rcases hd with hd | ⟨d, hd, hlt⟩
    · rw [List.drop_eq_nil_of_le hd, merge_nilr, merge_nilr]
    · rw [drop_at hd]
      conv => lhs; unfold mergeR
      rw [if_pos hlt]
  have h1 := h.l
  have h2 := h.g
  have h3 := h.p
  rw [e] at h1 h2 h3
  exact ⟨by rw [List.append_assoc]; exact h1, h2, h3, h.last, h.ok, by rw [List.length_append]; have := h.cl; simp; omega, h.cg, Nat.le_succ_of_le h.cp⟩
/-- A byte is gained. -/
theorem RmI.gained (h : RmI x y i k Cl Cg P last) (hd : y[k]? = some d) (hc : x.length ≤ i ∨ ∃ c, x[i]? = some c ∧ d.at_ < c.at_) : RmI x y i (k + 1) Cl (Cg ++ [d]) P last := by
  have e : mergeR (x.drop i) (y.drop k) = ((mergeR (x.drop i) (y.drop (k + 1))).1, d :: (mergeR (x.drop i) (y.drop (k + 1))).2.1, (mergeR (x.drop i) (y.drop (k + 1))).2.2) := by
    rw [drop_at hd]
    rcases hc with hc | ⟨c, hc, hlt⟩
    · rw [List.drop_eq_nil_of_le hc, merge_nil, merge_nil]
    · rw [drop_at hc]
      conv => lhs; unfold mergeR
      rw [if_neg (by omega), if_pos hlt]
  have h1 := h.l
  have h2 := h.g
  have h3 := h.p
  rw [e] at h1 h2 h3
  exact ⟨h1, by rw [List.append_assoc]; exact h2, h3, h.last, h.ok, h.cl, by rw [List.length_append]; have := h.cg; simp; omega, h.cp⟩
theorem merge_eq (hc : x[i]? = some c) (hd : y[k]? = some d) (ha : c.at_ = d.at_) : mergeR (x.drop i) (y.drop k) = if c.prot ≠ d.prot then (c :: (mergeR (x.drop (i + 1)) (y.drop (k + 1))).1, d :: (mergeR (x.drop (i + 1)) (y.drop (k + 1))).2.1, (mergeR (x.drop (i + 1)) (y.drop (k + 1))).2.2)
    else if c.b ≠ d.b then ((mergeR (x.drop (i + 1)) (y.drop (k + 1))).1, (mergeR (x.drop (i + 1)) (y.drop (k + 1))).2.1, ⟨c.at_, c.b, d.b⟩ :: (mergeR (x.drop (i + 1)) (y.drop (k + 1))).2.2) else mergeR (x.drop (i + 1)) (y.drop (k + 1)) := by
  rw [drop_at hc, drop_at hd]
  conv => lhs; unfold mergeR
  rw [if_neg (by omega), if_neg (by omega)]
theorem RmI.both (h : RmI x y i k Cl Cg P last) (hc : x[i]? = some c) (hd : y[k]? = some d) (ha : c.at_ = d.at_) (hp : c.prot ≠ d.prot) : RmI x y (i + 1) (k + 1) (Cl ++ [c]) (Cg ++ [d]) P last := by
  have e := merge_eq hc hd ha
  rw [if_pos hp] at e
  have h1 := h.l
  have h2 := h.g
  have h3 := h.p
  rw [e] at h1 h2 h3
  exact ⟨by rw [List.append_assoc]; exact h1, by rw [List.append_assoc]; exact h2, h3, h.last, h.ok, by rw [List.length_append]; have := h.cl; simp; omega, by rw [List.length_append]; have := h.cg; simp; omega, Nat.le_succ_of_le h.cp⟩
theorem RmI.same (h : RmI x y i k Cl Cg P last) (hc : x[i]? = some c) (hd : y[k]? = some d) (ha : c.at_ = d.at_) (hp : c.prot = d.prot) (hb : c.b = d.b) : RmI x y (i + 1) (k + 1) Cl Cg P last := by
  have e := merge_eq hc hd ha
  rw [if_neg (fun h => h hp), if_neg (fun h => h hb)] at e
  have h1 := h.l
  have h2 := h.g
  have h3 := h.p
  rw [e] at h1 h2 h3
  exact ⟨h1, h2, h3, h.last, h.ok, Nat.le_succ_of_le h.cl, Nat.le_succ_of_le h.cg, Nat.le_succ_of_le h.cp⟩
/-- A byte is patched. -/
theorem RmI.patch (h : RmI x y i k Cl Cg P last) (hc : x[i]? = some c) (hd : y[k]? = some d) (ha : c.at_ = d.at_) (hp : c.prot = d.prot) (hb : c.b ≠ d.b) (hmx : c.at_ < MAXA) : RmI x y (i + 1) (k + 1) Cl Cg (pushD P ⟨c.at_, c.b, d.b⟩) c.at_ := by
  have e := merge_eq hc hd ha
  rw [if_neg (fun h => h hp), if_pos hb] at e
  have h1 := h.l
  have h2 := h.g
  have h3 := h.p
  rw [e] at h1 h2 h3
  refine ⟨h1, h2, h3, .inr ?_, ?_, Nat.le_succ_of_le h.cl, Nat.le_succ_of_le h.cg, Nat.le_trans (pushD_len _ _) (Nat.succ_le_succ h.cp)⟩
  · rcases List.eq_nil_or_concat P with h0 | ⟨m, g, h0⟩
    · rw [h0]; exact ⟨[], _, rfl, rfl⟩
    · rw [h0, List.concat_eq_append, pushD_snoc]
      split
      · rename_i e0
        exact ⟨m, _, rfl, by dsimp only at e0 ⊢; rw [List.length_append]; simp; omega⟩
      · exact ⟨m ++ [g], _, rfl, rfl⟩
  · have hok := h.ok
    rcases List.eq_nil_or_concat P with h0 | ⟨m, g, h0⟩
    · rw [h0]
      intro q hq
      have hq : q = ⟨c.at_, [c.b], [d.b]⟩ := by simpa [pushD] using hq
      subst hq
      exact ⟨by simp, rfl, hmx⟩
    · rw [List.concat_eq_append] at h0
      rw [h0] at hok ⊢
      rw [pushD_snoc]
      have hg := hok g (by simp)
      split
      · rename_i e0
        dsimp only at e0
        intro q hq
        rcases List.mem_append.1 hq with hq | hq
        · exact hok q (List.mem_append_left _ hq)
        · rw [List.mem_singleton] at hq; subst hq
          refine ⟨by simp, by simp [hg.2.1], ?_⟩
          dsimp only
          rw [List.length_append]
          simp
          omega
      · intro q hq
        rcases List.mem_append.1 hq with hq | hq
        · exact hok q hq
        · rw [List.mem_singleton] at hq; subst hq
          exact ⟨by simp, rfl, hmx⟩
theorem RmI.done (h : RmI x y i k Cl Cg P last) (hi : x.length ≤ i) (hk : y.length ≤ k) : Cl = (mergeR x y).1 ∧ Cg = (mergeR x y).2.1 ∧ P = (mergeR x y).2.2.foldl pushD [] := by
  have h1 := h.l
  have h2 := h.g
  have h3 := h.p
  rw [List.drop_eq_nil_of_le hi, List.drop_eq_nil_of_le hk, merge_nil] at h1 h2 h3
  simp at h1 h2 h3
  exact ⟨h1, h2, h3⟩
end
end Go.Proofs.Ythlnjfnjmjdohaa
