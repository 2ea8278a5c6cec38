/- What stands while all exports are gone over. -/
import Derived.Test.YthhjdkcnkdffcaaGreatZSays
import Derived.Test.YthhjdkcnkdffcaaGreatZLebM
namespace Go.Proofs.YthhjdkcnkdffcaaGreat
set_option linter.unusedSimpArgs false
set_option linter.unusedVariables false
open Go.RowKit
def expCells (l : List Exp) : List Value := l.flatMap Exp.cells
theorem expCells_snoc (l : List Exp) (x : Exp) : expCells (l ++ [x]) = expCells l ++ x.cells := by simp [expCells]
theorem expCells_length (l : List Exp) : (expCells l).length = l.length * 7 := by
  induction l with
  | nil => rfl
  | cons k l ih => simp only [expCells, List.flatMap_cons, List.length_append, List.length_cons] at ih ⊢; rw [ih]; simp [Exp.cells]; omega
def intCells (l : List Int) : List Value := l.map (Value.int .i64)
/-- A slice's block is the one that it was, or a new one. -/
def Lies (W : World) (v v' : Value) : Prop := v'.ownBlock = v.ownBlock ∨ ∃ j, v'.ownBlock = some j ∧ W.heap.size ≤ j
/-- What is kept: all blocks but those that are written. -/
structure Kept (W W' : World) (c Q : Nat) (vo vo' vw vw' : Value) : Prop where
  size : W.heap.size ≤ W'.heap.size
  blk : ∀ k, k < W.heap.size → k ≠ c → k ≠ Q + 1 → k ≠ Q + 2 → k ≠ Q + 3 → vo.ownBlock ≠ some k → vw.ownBlock ≠ some k → W'.heap[k]? = W.heap[k]?
  lo : Lies W vo vo'
  lw : Lies W vw vw'
theorem Lies.refl (W : World) (v : Value) : Lies W v v := .inl rfl
theorem Lies.trans {W W1 : World} {v v1 v2 : Value} (h : Lies W v v1) (k : Lies W1 v1 v2) (hs : W.heap.size ≤ W1.heap.size) : Lies W v v2 := by
  rcases k with k1 | ⟨j, k1, k2⟩
  · rcases h with h1 | ⟨i, h1, h2⟩
    · exact .inl (k1.trans h1)
    · exact .inr ⟨i, k1.trans h1, h2⟩
  · exact .inr ⟨j, k1, Nat.le_trans hs k2⟩
theorem Lies.ne {W : World} {v v' : Value} (h : Lies W v v') {k : Nat} (hk : k < W.heap.size) (hn : v.ownBlock ≠ some k) : v'.ownBlock ≠ some k := by
  intro e
  rcases h with h1 | ⟨j, h1, h2⟩
  · exact hn (h1.symm.trans e)
  · rw [h1] at e; cases e; omega
theorem Kept.trans {W W1 W2 : World} {c Q : Nat} {vo vo1 vo2 vw vw1 vw2 : Value} (h : Kept W W1 c Q vo vo1 vw vw1) (k : Kept W1 W2 c Q vo1 vo2 vw1 vw2) : Kept W W2 c Q vo vo2 vw vw2 :=
  ⟨Nat.le_trans h.size k.size, fun j hj h1 h2 h3 h4 h5 h6 => (k.blk j (Nat.lt_of_lt_of_le hj h.size) h1 h2 h3 h4 (h.lo.ne hj h5) (h.lw.ne hj h6)).trans (h.blk j hj h1 h2 h3 h4 h5 h6), h.lo.trans k.lo h.size, h.lw.trans k.lw h.size⟩
theorem Kept.refl (W : World) (c Q : Nat) (vo vw : Value) : Kept W W c Q vo vo vw vw := ⟨Nat.le_refl _, fun _ _ _ _ _ _ _ _ => rfl, Lies.refl _ _, Lies.refl _ _⟩
theorem Kept.setFar {W W1 : World} {c Q : Nat} {vo vo1 vw vw1 : Value} (h : Kept W W1 c Q vo vo1 vw vw1) {X i : Nat} (hX : W.heap.size ≤ X) (u : Value) : Kept W (W1.setCell ⟨X, i, none⟩ u) c Q vo vo1 vw vw1 :=
  ⟨by simpa [World.setCell] using h.size, fun k hk h1 h2 h3 h4 h5 h6 => by rw [heap_setCell_other W1 _ k _ (by simp; omega)]; exact h.blk k hk h1 h2 h3 h4 h5 h6, h.lo, h.lw⟩
/-- The closure's captured variables. -/
def caps (B Q : Nat) : Array Value := #[.pointer (some ⟨Q + 3, 0, none⟩), .pointer (some ⟨Q + 2, 0, none⟩), .pointer (some ⟨Q, 0, none⟩), .pointer (some ⟨B, 0, none⟩), .pointer (some ⟨Q + 1, 0, none⟩), .pointer (some ⟨Q + 4, 0, none⟩)]
section
variable {w0 W W' : World} {B c Q : Nat} {l : List UInt8} {s s' : Cu} {met : Nat} {out : List Exp} {walk : List Int} {vo vw : Value}
/-- What is held besides, behind an append onto one of the two slices. -/
theorem CurAt.block {w w' : World} {c k : Nat} {l : List UInt8} {big f : Bool} (h : CurAt w c l k big f) (hb : ∀ j, j ≤ c → w'.heap[j]? = w.heap[j]?) : CurAt w' c l k big f := by
  obtain ⟨v, hv, hnb, hk, hc⟩ := h
  exact ⟨v, hv.of_block (fun j hj _ => hb j (Nat.le_of_lt (hnb j hj))), hnb, hk, (hb c (Nat.le_refl _)).trans hc⟩
theorem ownsRow_pop {w : World} {base : Nat} {e : TypeId} {g : Option Addr} {n cap : Nat} {xs : List Value} {x : Value} (h : w.ownsRow base e 1 (.slice g (n + 1) cap) (n + 1) (xs ++ [x])) : w.ownsRow base e 1 (.slice g n cap) n xs := by
  have hl := h.1
  rw [List.length_append] at hl
  simp at hl
  rcases h.2 with ⟨_, h0⟩ | ⟨g', cap', cur, he, hb, hg, hnc, hcm, hcs, htake⟩
  · omega
  · cases he
    refine ⟨by omega, .inr ⟨g', cap, cur, rfl, hb, hg, by omega, hcm, hcs, ?_⟩⟩
    have hx : xs.length = n := by omega
    have h2 := congrArg (List.take n) htake
    rw [List.take_take, show min n ((n + 1) * 1) = n by omega] at h2
    rw [Nat.mul_one, h2, ← hx]
    exact List.take_left
end
theorem ownsRow_block {w w' : World} {base : Nat} {e : TypeId} {size : Nat} {v : Value} {n : Nat} {xs : List Value} (h : w.ownsRow base e size v n xs) (hb : ∀ j, v.ownBlock = some j → w'.heap[j]? = w.heap[j]?) : w'.ownsRow base e size v n xs := by
  refine ⟨h.1, ?_⟩
  rcases h.2 with h1 | ⟨g, cap, cur, rfl, h2, hg, h3, h4, h5, h6⟩
  · exact .inl h1
  · exact .inr ⟨g, cap, cur, rfl, h2, (hb g rfl).trans hg, h3, h4, h5, h6⟩
/-- A node's children, while others are gone over. -/
structure KF (W : World) (base Q : Nat) (kv : Value) (ks : List KidM) (vo vw : Value) : Prop where
  own : W.ownsRow base 193 2 kv ks.length (kidCells ks)
  far : Q + 5 ≤ base
  ao : Apart kv vo
  aw : Apart kv vw
theorem KF.kept {W W' : World} {base c Q : Nat} {kv : Value} {ks : List KidM} {vo vw vo' vw' : Value} (h : KF W base Q kv ks vo vw) (k : Kept W W' c Q vo vo' vw vw') (hc : c < Q) : KF W' base Q kv ks vo' vw' := by
  have hf := h.far
  refine ⟨ownsRow_block h.own (fun j hj => ?_), h.far, fun j hj => k.lo.ne (World.ownsRow.lt h.own j hj).2 (h.ao j hj), fun j hj => k.lw.ne (World.ownsRow.lt h.own j hj).2 (h.aw j hj)⟩
  have h1 := World.ownsRow.lt h.own j hj
  exact k.blk j h1.2 (by omega) (by omega) (by omega) (by omega) (h.ao j hj) (h.aw j hj)
theorem kidCells_get (l : List KidM) : ∀ (i : Nat) (k : KidM), l[i]? = some k → (kidCells l)[i * 2]? = some (.string (mkS k.edge)) ∧ (kidCells l)[i * 2 + 1]? = some (.int .i64 k.to) := by
  induction l with
  | nil => intro i x h; simp at h
  | cons y l ih =>
    intro i x h
    cases i with
    | zero => simp at h; subst h; exact ⟨rfl, rfl⟩
    | succ i =>
      obtain ⟨h1, h2⟩ := ih i x (by simpa using h)
      simp only [kidCells, List.flatMap_cons] at h1 h2 ⊢
      have hy : y.cells.length = 2 := rfl
      rw [List.getElem?_append_right (by omega), List.getElem?_append_right (by omega)]
      rw [show (i + 1) * 2 - y.cells.length = i * 2 by omega, show (i + 1) * 2 + 1 - y.cells.length = i * 2 + 1 by omega]
      exact ⟨h1, h2⟩
/-- A child's two cells. -/
theorem KF.at {W : World} {base Q : Nat} {kv : Value} {ks : List KidM} {vo vw : Value} (h : KF W base Q kv ks vo vw) {i : Nat} {k : KidM} (hk : ks[i]? = some k) :
    ∃ g cap, kv = .slice (some ⟨g, 0, none⟩) ks.length cap ∧ g < W.heap.size ∧ W.cell? ⟨g, i * 2, none⟩ = some (.string (mkS k.edge)) ∧ W.cell? ⟨g, i * 2 + 1, none⟩ = some (.int .i64 k.to) := by
  have hlt := (List.getElem?_eq_some_iff.1 hk).1
  rcases h.own.2 with ⟨_, h1⟩ | ⟨g, cap, cur, rfl, h2, hg, h3, h4, h5, h6⟩
  · omega
  · obtain ⟨h7, h8⟩ := kidCells_get ks i k hk
    refine ⟨g, cap, rfl, (World.ownsRow.lt h.own g rfl).2, ?_, ?_⟩
    · rw [cell_of_row W g (i * 2) _ _ _ hg]
      rw [← h6, List.getElem?_take, if_pos (by omega)] at h7
      simpa using h7
    · rw [cell_of_row W g (i * 2 + 1) _ _ _ hg]
      rw [← h6, List.getElem?_take, if_pos (by omega)] at h8
      simpa using h8
end Go.Proofs.YthhjdkcnkdffcaaGreat
