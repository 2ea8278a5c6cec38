/- What stands while all exports are gone over. -/
import Derived.Test.YtipgcdpmkpjokaaGreatDoorZSays
import Derived.Test.YtipgcdpmkpjokaaGreatDoorZLebM
namespace Go.Proofs.YtipgcdpmkpjokaaGreatDoor
set_option linter.unusedSimpArgs false
set_option linter.unusedVariables false
open Go.RowKit

def expCells (l : List Exp) : List Value := l.flatMap Exp.cells
theorem expCells_snoc (l : List Exp) (x : Exp) : expCells (l ++ [x]) = expCells l ++ x.cells := by simp [expCells]
theorem expCells_length (l : List Exp) : (expCells l).length = l.length * 7 := by
  induction l with
  | nil => rfl
  | cons k l ih => simp only [expCells, List.flatMap_cons, List.length_append, List.length_cons] at ih ⊢; rw [ih]; simp [Exp.cells]; omega
def intCells (l : List Int) : List Value := l.map (Value.int .i64)

/-- A slice's block is the one that it was, or a new one. -/
def Lies (W : World) (v v' : Value) : Prop := v'.ownBlock = v.ownBlock ∨ ∃ j, v'.ownBlock = some j ∧ W.heap.size ≤ j

/-- What is kept: all blocks but those that are written. -/
structure Kept (W W' : World) (c Q : Nat) (vo vo' vw vw' : Value) : Prop where
  size : W.heap.size ≤ W'.heap.size
  blk : ∀ k, k < W.heap.size → k ≠ c → k ≠ Q + 1 → k ≠ Q + 2 → k ≠ Q + 3 → vo.ownBlock ≠ some k → vw.ownBlock ≠ some k → W'.heap[k]? = W.heap[k]?
  lo : Lies W vo vo'
  lw : Lies W vw vw'

theorem Lies.refl (W : World) (v : Value) : Lies W v v := .inl rfl
theorem Lies.trans {W W1 : World} {v v1 v2 : Value} (h : Lies W v v1) (k : Lies W1 v1 v2) (hs : W.heap.size ≤ W1.heap.size) : Lies W v v2 := by
  rcases k with k1 | ⟨j, k1, k2⟩
  · rcases h with h1 | ⟨i, h1, h2⟩
    · exact .inl (k1.trans h1)
    · exact .inr ⟨i, k1.trans h1, h2⟩
  · exact .inr ⟨j, k1, Nat.le_trans hs k2⟩
theorem Lies.ne {W : World} {v v' : Value} (h : Lies W v v') {k : Nat} (hk : k < W.heap.size) (hn : v.ownBlock ≠ some k) : v'.ownBlock ≠ some k := by
  intro e
  rcases h with h1 | ⟨j, h1, h2⟩
  · exact hn (h1.symm.trans e)
  · rw [h1] at e; cases e; omega

theorem Kept.trans {W W1 W2 : World} {c Q : Nat} {vo vo1 vo2 vw vw1 vw2 : Value} (h : Kept W W1 c Q vo vo1 vw vw1) (k : Kept W1 W2 c Q vo1 vo2 vw1 vw2) : Kept W W2 c Q vo vo2 vw vw2 :=
  ⟨Nat.le_trans h.size k.size, fun j hj h1 h2 h3 h4 h5 h6 => (k.blk j (Nat.lt_of_lt_of_le hj h.size) h1 h2 h3 h4 (h.lo.ne hj h5) (h.lw.ne hj h6)).trans (h.blk j hj h1 h2 h3 h4 h5 h6), h.lo.trans k.lo h.size, h.lw.trans k.lw h.size⟩
theorem Kept.refl (W : World) (c Q : Nat) (vo vw : Value) : Kept W W c Q vo vo vw vw := ⟨Nat.le_refl _, fun _ _ _ _ _ _ _ _ => rfl, Lies.refl _ _, Lies.refl _ _⟩

theorem Kept.setFar {W W1 : World} {c Q : Nat} {vo vo1 vw vw1 : Value} (h : Kept W W1 c Q vo vo1 vw vw1) {X i : Nat} (hX : W.heap.size ≤ X) (u : Value) : Kept W (W1.setCell ⟨X, i, none⟩ u) c Q vo vo1 vw vw1 :=
  ⟨by simpa [World.setCell] using h.size, fun k hk h1 h2 h3 h4 h5 h6 => by rw [heap_setCell_other W1 _ k _ (by simp; omega)]; exact h.blk k hk h1 h2 h3 h4 h5 h6, h.lo, h.lw⟩

/-- The closure's captured variables. -/
def caps (B Q : Nat) : Array Value := #[.pointer (some ⟨Q + 3, 0, none⟩), .pointer (some ⟨Q + 2, 0, none⟩), .pointer (some ⟨Q, 0, none⟩), .pointer (some ⟨B, 0, none⟩), .pointer (some ⟨Q + 1, 0, none⟩), .pointer (some ⟨Q + 4, 0, none⟩)]

structure DS (w0 W : World) (B c Q : Nat) (l : List UInt8) (s : Cu) (met : Nat) (out : List Exp) (walk : List Int) (vo vw : Value) : Prop where
  bB : ∃ p cap, RowAt W B 29 #[.slice p l.length cap]
  bC : RowAt W Q 65 #[.pointer (some ⟨c, 0, none⟩)]
  bO : RowAt W (Q + 1) 23 #[vo]
  bW : RowAt W (Q + 2) 61 #[vw]
  bM : RowAt W (Q + 3) 3 #[.int .i64 (met : Int)]
  bD : RowAt W (Q + 4) 67 #[.func (.func 30) #[] (caps B Q)]
  cur : CuAt W c l s
  et0 : ET w0
  own : W.ownsRow (Q + 5) 28 7 vo out.length (expCells out)
  wal : W.ownsRow (Q + 5) 3 1 vw walk.length (intCells walk)
  apart : Apart vo vw
  low : Below w0.heap.size w0 W
  bc : w0.heap.size ≤ B ∧ B < c ∧ c < Q

section
variable {w0 W W' : World} {B c Q : Nat} {l : List UInt8} {s s' : Cu} {met : Nat} {out : List Exp} {walk : List Int} {vo vw : Value}

theorem DS.top (h : DS w0 W B c Q l s met out walk vo vw) : Q + 4 < W.heap.size := h.bD.lt
theorem DS.vo_ne (h : DS w0 W B c Q l s met out walk vo vw) {k : Nat} (hk : k < Q + 5) : vo.ownBlock ≠ some k := fun e => by have := (World.ownsRow.lt h.own k e).1; omega
theorem DS.vw_ne (h : DS w0 W B c Q l s met out walk vo vw) {k : Nat} (hk : k < Q + 5) : vw.ownBlock ≠ some k := fun e => by have := (World.ownsRow.lt h.wal k e).1; omega
theorem DS.et (h : DS w0 W B c Q l s met out walk vo vw) : ET W := by
  have hlt := lt_of_cellB h.et0
  have := h.et0
  unfold ET at this ⊢
  rw [h.low.cell (p := ⟨0, 0, none⟩) hlt]; exact this
theorem DS.et_ne (h : DS w0 W B c Q l s met out walk vo vw) : some c ≠ some 0 := ET.ne h.et h.cur

/-- Nothing but the cursor, and new blocks. -/
theorem DS.call (h : DS w0 W B c Q l s met out walk vo vw) (hc : CuAt W' c l s') (hg : W.grownBy W' (some c)) : DS w0 W' B c Q l s' met out walk vo vw ∧ Kept W W' c Q vo vo vw vw := by
  have hbc := h.bc
  have htop := h.top
  have ne : ∀ k, k ≠ c → some k ≠ some c := fun k hk e => hk (Option.some.inj e)
  refine ⟨⟨?_, h.bC.grown hg (ne _ (by omega)), h.bO.grown hg (ne _ (by omega)), h.bW.grown hg (ne _ (by omega)), h.bM.grown hg (ne _ (by omega)), h.bD.grown hg (ne _ (by omega)), hc, h.et0,
    h.own.kept hg (.inr (h.vo_ne (by omega))), h.wal.kept hg (.inr (h.vw_ne (by omega))), h.apart, ?_, h.bc⟩, hg.size, fun k hk hkc _ _ _ _ _ => hg.block k hk (ne k hkc), Lies.refl _ _, Lies.refl _ _⟩
  · obtain ⟨p, cap, hB⟩ := h.bB
    exact ⟨p, cap, hB.grown hg (ne _ (by omega))⟩
  · have := h.low.size
    exact h.low.grown hg this (fun k e => by have := Option.some.inj e; omega)

theorem DS.below (h : DS w0 W B c Q l s met out walk vo vw) (hb : Below W.heap.size W W') : DS w0 W' B c Q l s met out walk vo vw ∧ Kept W W' c Q vo vo vw vw :=
  h.call (CurAt.below h.cur hb) (Below.all hb _)

/-- A store into a block of the call's own that is none of these. -/
theorem DS.setK (h : DS w0 W B c Q l s met out walk vo vw) {K i : Nat} (hK : Q + 5 ≤ K) (ho : vo.ownBlock ≠ some K) (hw : vw.ownBlock ≠ some K) (u : Value) : DS w0 (W.setCell ⟨K, i, none⟩ u) B c Q l s met out walk vo vw := by
  have hbc := h.bc
  have hg := grownBy_setB W K i u
  have ne : ∀ k, k ≠ K → some k ≠ some K := fun k hk e => hk (Option.some.inj e)
  refine ⟨?_, h.bC.grown hg (ne _ (by omega)), h.bO.grown hg (ne _ (by omega)), h.bW.grown hg (ne _ (by omega)), h.bM.grown hg (ne _ (by omega)), h.bD.grown hg (ne _ (by omega)), CurAt.setFar h.cur (by omega) u, h.et0,
    ownsRow_setOther h.own ho u, ownsRow_setOther h.wal hw u, h.apart, h.low.setCell (by show w0.heap.size ≤ K; omega) u, h.bc⟩
  obtain ⟨p, cap, hB⟩ := h.bB
  exact ⟨p, cap, hB.grown hg (ne _ (by omega))⟩

/-- One more node was met. -/
theorem DS.setMet (h : DS w0 W B c Q l s met out walk vo vw) (m : Nat) : DS w0 (W.setCell ⟨Q + 3, 0, none⟩ (.int .i64 (m : Int))) B c Q l s m out walk vo vw ∧ Kept W (W.setCell ⟨Q + 3, 0, none⟩ (.int .i64 (m : Int))) c Q vo vo vw vw := by
  have hbc := h.bc
  have hg := grownBy_setB W (Q + 3) 0 (.int .i64 (m : Int))
  have ne : ∀ k, k ≠ Q + 3 → some k ≠ some (Q + 3) := fun k hk e => hk (Option.some.inj e)
  refine ⟨⟨?_, h.bC.grown hg (ne _ (by omega)), h.bO.grown hg (ne _ (by omega)), h.bW.grown hg (ne _ (by omega)), ?_, h.bD.grown hg (ne _ (by omega)), CurAt.setFar h.cur (by omega) _, h.et0,
    ownsRow_setOther h.own (h.vo_ne (by omega)) _, ownsRow_setOther h.wal (h.vw_ne (by omega)) _, h.apart, h.low.setCell (by show w0.heap.size ≤ Q + 3; omega) _, h.bc⟩, hg.size, fun k hk _ _ _ h3 _ _ => hg.block k hk (ne k h3), Lies.refl _ _, Lies.refl _ _⟩
  · obtain ⟨p, cap, hB⟩ := h.bB
    exact ⟨p, cap, hB.grown hg (ne _ (by omega))⟩
  · unfold RowAt; rw [heap_setCell_same _ _ _ _ _ _ h.bM]; rfl

/-- What is held besides, behind an append onto one of the two slices. -/
theorem CurAt.block {w w' : World} {c k : Nat} {l : List UInt8} {big f : Bool} (h : CurAt w c l k big f) (hb : ∀ j, j ≤ c → w'.heap[j]? = w.heap[j]?) : CurAt w' c l k big f := by
  obtain ⟨v, hv, hnb, hk, hc⟩ := h
  exact ⟨v, hv.of_block (fun j hj _ => hb j (Nat.le_of_lt (hnb j hj))), hnb, hk, (hb c (Nat.le_refl _)).trans hc⟩

/-- One more export. -/
theorem DS.putOut {vo' : Value} {x : Exp} (h : DS w0 W B c Q l s met out walk vo vw) (hg : Grew W W' vo vo') (ho : W'.ownsRow (Q + 5) 28 7 vo' (out ++ [x]).length (expCells (out ++ [x]))) :
    DS w0 (W'.setCell ⟨Q + 1, 0, none⟩ vo') B c Q l s met (out ++ [x]) walk vo' vw ∧ Kept W (W'.setCell ⟨Q + 1, 0, none⟩ vo') c Q vo vo' vw vw := by
  have hbc := h.bc
  have htop := h.top
  have kb : ∀ k, k < Q + 5 → W'.heap[k]? = W.heap[k]? := fun k hk => hg.block (by omega) (h.vo_ne hk)
  have ne' : ∀ k, k < Q + 5 → vo'.ownBlock ≠ some k := fun k hk e => by have := (World.ownsRow.lt ho k e).1; omega
  have keep : ∀ {K : Nat} {t : TypeId} {vs : Array Value}, RowAt W K t vs → K < Q + 5 → K ≠ Q + 1 → RowAt (W'.setCell ⟨Q + 1, 0, none⟩ vo') K t vs := fun hr hK hne => RowAt.other (show RowAt W' _ _ _ from (kb _ hK).trans hr) hne _
  have hap : Apart vo' vw := (hg.apart h.wal h.apart.symm).symm
  refine ⟨⟨?_, keep h.bC (by omega) (by omega), ?_, keep h.bW (by omega) (by omega), keep h.bM (by omega) (by omega), keep h.bD (by omega) (by omega), CurAt.setFar (CurAt.block h.cur (fun j hj => kb j (by omega))) (by omega) _, h.et0,
    ownsRow_setOther ho (ne' _ (by omega)) _, ownsRow_setOther (hg.own h.wal h.apart.symm) (h.vw_ne (by omega)) _, hap, ?_, h.bc⟩, ?_, fun k hk _ h1 _ _ h4 _ => ?_, ?_, Lies.refl _ _⟩
  · obtain ⟨p, cap, hB⟩ := h.bB
    exact ⟨p, cap, keep hB (by omega) (by omega)⟩
  · unfold RowAt; rw [heap_setCell_same _ _ _ _ _ _ (show RowAt W' (Q + 1) _ _ from (kb _ (by omega)).trans h.bO)]; rfl
  · refine Below.setCell ?_ (by show w0.heap.size ≤ Q + 1; omega) _
    exact h.low.trans ((hg.below (B := Q + 5) (by omega) (fun k e => (World.ownsRow.lt h.own k e).1)).mono (by omega))
  · simpa [World.setCell] using hg.size
  · rw [heap_setCell_other W' _ k _ (by simp; exact h1)]
    exact hg.block hk h4
  · rcases hg.lies with e | e
    · exact .inl e
    · exact .inr e

/-- One more place on the way. -/
theorem DS.putWalk {vw' : Value} {a : Int} (h : DS w0 W B c Q l s met out walk vo vw) (hg : Grew W W' vw vw') (ho : W'.ownsRow (Q + 5) 3 1 vw' (walk ++ [a]).length (intCells (walk ++ [a]))) :
    DS w0 (W'.setCell ⟨Q + 2, 0, none⟩ vw') B c Q l s met out (walk ++ [a]) vo vw' ∧ Kept W (W'.setCell ⟨Q + 2, 0, none⟩ vw') c Q vo vo vw vw' := by
  have hbc := h.bc
  have htop := h.top
  have kb : ∀ k, k < Q + 5 → W'.heap[k]? = W.heap[k]? := fun k hk => hg.block (by omega) (h.vw_ne hk)
  have ne' : ∀ k, k < Q + 5 → vw'.ownBlock ≠ some k := fun k hk e => by have := (World.ownsRow.lt ho k e).1; omega
  have keep : ∀ {K : Nat} {t : TypeId} {vs : Array Value}, RowAt W K t vs → K < Q + 5 → K ≠ Q + 2 → RowAt (W'.setCell ⟨Q + 2, 0, none⟩ vw') K t vs := fun hr hK hne => RowAt.other (show RowAt W' _ _ _ from (kb _ hK).trans hr) hne _
  have hap : Apart vo vw' := hg.apart h.own h.apart
  refine ⟨⟨?_, keep h.bC (by omega) (by omega), keep h.bO (by omega) (by omega), ?_, keep h.bM (by omega) (by omega), keep h.bD (by omega) (by omega), CurAt.setFar (CurAt.block h.cur (fun j hj => kb j (by omega))) (by omega) _, h.et0,
    ownsRow_setOther (hg.own h.own h.apart) (h.vo_ne (by omega)) _, ownsRow_setOther ho (ne' _ (by omega)) _, hap, ?_, h.bc⟩, ?_, fun k hk _ _ h2 _ _ h5 => ?_, Lies.refl _ _, ?_⟩
  · obtain ⟨p, cap, hB⟩ := h.bB
    exact ⟨p, cap, keep hB (by omega) (by omega)⟩
  · unfold RowAt; rw [heap_setCell_same _ _ _ _ _ _ (show RowAt W' (Q + 2) _ _ from (kb _ (by omega)).trans h.bW)]; rfl
  · refine Below.setCell ?_ (by show w0.heap.size ≤ Q + 2; omega) _
    exact h.low.trans ((hg.below (B := Q + 5) (by omega) (fun k e => (World.ownsRow.lt h.wal k e).1)).mono (by omega))
  · simpa [World.setCell] using hg.size
  · rw [heap_setCell_other W' _ k _ (by simp; exact h2)]
    exact hg.block hk h5
  · rcases hg.lies with e | e
    · exact .inl e
    · exact .inr e

theorem ownsRow_pop {w : World} {base : Nat} {e : TypeId} {g : Option Addr} {n cap : Nat} {xs : List Value} {x : Value} (h : w.ownsRow base e 1 (.slice g (n + 1) cap) (n + 1) (xs ++ [x])) : w.ownsRow base e 1 (.slice g n cap) n xs := by
  have hl := h.1
  rw [List.length_append] at hl
  simp at hl
  rcases h.2 with ⟨_, h0⟩ | ⟨g', cap', cur, he, hb, hg, hnc, hcm, hcs, htake⟩
  · omega
  · cases he
    refine ⟨by omega, .inr ⟨g', cap, cur, rfl, hb, hg, by omega, hcm, hcs, ?_⟩⟩
    have hx : xs.length = n := by omega
    have h2 := congrArg (List.take n) htake
    rw [List.take_take, show min n ((n + 1) * 1) = n by omega] at h2
    rw [Nat.mul_one, h2, ← hx]
    exact List.take_left

/-- The last place on the way is left. -/
theorem DS.popWalk {g : Option Addr} {cap : Nat} {a : Int} (h : DS w0 W B c Q l s met out (walk ++ [a]) vo (.slice g (walk.length + 1) cap)) :
    DS w0 (W.setCell ⟨Q + 2, 0, none⟩ (.slice g walk.length cap)) B c Q l s met out walk vo (.slice g walk.length cap) ∧ Kept W (W.setCell ⟨Q + 2, 0, none⟩ (.slice g walk.length cap)) c Q vo vo (.slice g (walk.length + 1) cap) (.slice g walk.length cap) := by
  have hbc := h.bc
  have hg := grownBy_setB W (Q + 2) 0 (.slice g walk.length cap)
  have ne : ∀ k, k ≠ Q + 2 → some k ≠ some (Q + 2) := fun k hk e => hk (Option.some.inj e)
  have hp : W.ownsRow (Q + 5) 3 1 (.slice g walk.length cap) walk.length (intCells walk) := by
    have := h.wal
    rw [List.length_append] at this
    unfold intCells at this ⊢
    rw [List.map_append] at this
    exact ownsRow_pop this
  have hn2 : (Value.slice g walk.length cap).ownBlock ≠ some (Q + 2) := fun e => by have := (World.ownsRow.lt hp _ e).1; omega
  refine ⟨⟨?_, h.bC.grown hg (ne _ (by omega)), h.bO.grown hg (ne _ (by omega)), ?_, h.bM.grown hg (ne _ (by omega)), h.bD.grown hg (ne _ (by omega)), CurAt.setFar h.cur (by omega) _, h.et0,
    ownsRow_setOther h.own (h.vo_ne (by omega)) _, ownsRow_setOther hp hn2 _, ?_, h.low.setCell (by show w0.heap.size ≤ Q + 2; omega) _, h.bc⟩, hg.size, fun k hk _ _ h2 _ _ _ => hg.block k hk (ne k h2), Lies.refl _ _, ?_⟩
  · obtain ⟨p, cap, hB⟩ := h.bB
    exact ⟨p, cap, hB.grown hg (ne _ (by omega))⟩
  · unfold RowAt; rw [heap_setCell_same _ _ _ _ _ _ h.bW]; rfl
  · intro k hk e
    refine h.apart k hk ?_
    cases g <;> exact e
  · refine .inl ?_
    cases g <;> rfl
end
theorem ownsRow_block {w w' : World} {base : Nat} {e : TypeId} {size : Nat} {v : Value} {n : Nat} {xs : List Value} (h : w.ownsRow base e size v n xs) (hb : ∀ j, v.ownBlock = some j → w'.heap[j]? = w.heap[j]?) : w'.ownsRow base e size v n xs := by
  refine ⟨h.1, ?_⟩
  rcases h.2 with h1 | ⟨g, cap, cur, rfl, h2, hg, h3, h4, h5, h6⟩
  · exact .inl h1
  · exact .inr ⟨g, cap, cur, rfl, h2, (hb g rfl).trans hg, h3, h4, h5, h6⟩

/-- A node's children, while others are gone over. -/
structure KF (W : World) (base Q : Nat) (kv : Value) (ks : List KidM) (vo vw : Value) : Prop where
  own : W.ownsRow base 74 2 kv ks.length (kidCells ks)
  far : Q + 5 ≤ base
  ao : Apart kv vo
  aw : Apart kv vw

theorem KF.kept {W W' : World} {base c Q : Nat} {kv : Value} {ks : List KidM} {vo vw vo' vw' : Value} (h : KF W base Q kv ks vo vw) (k : Kept W W' c Q vo vo' vw vw') (hc : c < Q) : KF W' base Q kv ks vo' vw' := by
  have hf := h.far
  refine ⟨ownsRow_block h.own (fun j hj => ?_), h.far, fun j hj => k.lo.ne (World.ownsRow.lt h.own j hj).2 (h.ao j hj), fun j hj => k.lw.ne (World.ownsRow.lt h.own j hj).2 (h.aw j hj)⟩
  have h1 := World.ownsRow.lt h.own j hj
  exact k.blk j h1.2 (by omega) (by omega) (by omega) (by omega) (h.ao j hj) (h.aw j hj)

theorem kidCells_get (l : List KidM) : ∀ (i : Nat) (k : KidM), l[i]? = some k → (kidCells l)[i * 2]? = some (.string (mkS k.edge)) ∧ (kidCells l)[i * 2 + 1]? = some (.int .i64 k.to) := by
  induction l with
  | nil => intro i x h; simp at h
  | cons y l ih =>
    intro i x h
    cases i with
    | zero => simp at h; subst h; exact ⟨rfl, rfl⟩
    | succ i =>
      obtain ⟨h1, h2⟩ := ih i x (by simpa using h)
      simp only [kidCells, List.flatMap_cons] at h1 h2 ⊢
      have hy : y.cells.length = 2 := rfl
      rw [List.getElem?_append_right (by omega), List.getElem?_append_right (by omega)]
      rw [show (i + 1) * 2 - y.cells.length = i * 2 by omega, show (i + 1) * 2 + 1 - y.cells.length = i * 2 + 1 by omega]
      exact ⟨h1, h2⟩

/-- A child's two cells. -/
theorem KF.at {W : World} {base Q : Nat} {kv : Value} {ks : List KidM} {vo vw : Value} (h : KF W base Q kv ks vo vw) {i : Nat} {k : KidM} (hk : ks[i]? = some k) :
    ∃ g cap, kv = .slice (some ⟨g, 0, none⟩) ks.length cap ∧ g < W.heap.size ∧ W.cell? ⟨g, i * 2, none⟩ = some (.string (mkS k.edge)) ∧ W.cell? ⟨g, i * 2 + 1, none⟩ = some (.int .i64 k.to) := by
  have hlt := (List.getElem?_eq_some_iff.1 hk).1
  rcases h.own.2 with ⟨_, h1⟩ | ⟨g, cap, cur, rfl, h2, hg, h3, h4, h5, h6⟩
  · omega
  · obtain ⟨h7, h8⟩ := kidCells_get ks i k hk
    refine ⟨g, cap, rfl, (World.ownsRow.lt h.own g rfl).2, ?_, ?_⟩
    · rw [cell_of_row W g (i * 2) _ _ _ hg]
      rw [← h6, List.getElem?_take, if_pos (by omega)] at h7
      simpa using h7
    · rw [cell_of_row W g (i * 2 + 1) _ _ _ hg]
      rw [← h6, List.getElem?_take, if_pos (by omega)] at h8
      simpa using h8
end Go.Proofs.YtipgcdpmkpjokaaGreatDoor
