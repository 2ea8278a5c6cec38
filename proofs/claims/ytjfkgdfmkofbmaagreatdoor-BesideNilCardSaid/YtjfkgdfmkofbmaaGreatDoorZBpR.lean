/- What two memories are beside one another, while it is gathered: the rows in their box. Plain laws of blocks. -/
import Derived.Test.YtjfkgdfmkofbmaaGreatDoorZBpL
import Derived.Test.YtjfkgdfmkofbmaaGreatDoorZBpP
namespace Go.Proofs.YtjfkgdfmkofbmaaGreatDoor
set_option linter.unusedSimpArgs false
set_option linter.unusedVariables false
open Go.RowKit

/-- The blocks of a list of pieces, of patches. -/
def blkPz (v : Value) (L : List PzV) (k : Nat) : Prop := v.ownBlock = some k ∨ ∃ x ∈ L, x.sl.ownBlock = some k
def blkPa (v : Value) (L : List PaV) (k : Nat) : Prop := v.ownBlock = some k ∨ ∃ x ∈ L, x.blk k
theorem OwnPz.tight {M : Nat → Prop} {W : World} {v : Value} {L : List PzV} (h : OwnPz M W v L) : OwnPz (blkPz v L) W v L :=
  ⟨h.own, h.each, fun k hk => .inl hk, fun x hx k hk => ⟨.inr ⟨x, hx, hk⟩, (h.mx x hx k hk).2⟩, h.pair, h.ok⟩
theorem OwnPa.tight {M : Nat → Prop} {W : World} {v : Value} {L : List PaV} (h : OwnPa M W v L) : OwnPa (blkPa v L) W v L :=
  ⟨h.own, h.e1, h.e2, fun k hk => .inl hk, fun x hx k hk => ⟨.inr ⟨x, hx, hk⟩, (h.mx x hx k hk).2⟩, h.self, h.pair, h.ok⟩
theorem OwnPz.sub {M : Nat → Prop} {W : World} {v : Value} {L : List PzV} (h : OwnPz M W v L) : ∀ k, blkPz v L k → M k := fun k hk => hk.elim (h.mv k) (fun ⟨x, hx, e⟩ => (h.mx x hx k e).1)
theorem OwnPa.sub {M : Nat → Prop} {W : World} {v : Value} {L : List PaV} (h : OwnPa M W v L) : ∀ k, blkPa v L k → M k := fun k hk => hk.elim (h.mv k) (fun ⟨x, hx, e⟩ => (h.mx x hx k e).1)
theorem OwnPz.blt {M : Nat → Prop} {W : World} {v : Value} {L : List PzV} (h : OwnPz M W v L) : ∀ k, blkPz v L k → k < W.heap.size := fun k hk => hk.elim (h.lt.1 k) (fun ⟨x, hx, e⟩ => h.lt.2 x hx k e)
theorem OwnPa.blt {M : Nat → Prop} {W : World} {v : Value} {L : List PaV} (h : OwnPa M W v L) : ∀ k, blkPa v L k → k < W.heap.size := fun k hk => hk.elim (h.lt.1 k) (fun ⟨x, hx, e⟩ => h.lt.2 x hx k e)
theorem owns_cells {W : World} {B : Nat} {e : TypeId} {size n : Nat} {v : Value} {xs : List Value} (h : W.ownsRow B e size v n xs) {k : Nat} (hk : v.ownBlock = some k) {o : Obj} (ho : W.heap[k]? = some o) : o.isCells = true := by
  obtain ⟨_, ⟨rfl, _⟩ | ⟨g, cap, cur, rfl, _, hc, _⟩⟩ := h
  · cases hk
  · cases hk; rw [hc] at ho; cases ho; rfl
theorem OwnPz.cells {M : Nat → Prop} {W : World} {v : Value} {L : List PzV} (h : OwnPz M W v L) {k : Nat} (hk : blkPz v L k) {o : Obj} (ho : W.heap[k]? = some o) : o.isCells = true :=
  hk.elim (fun e => owns_cells h.own e ho) (fun ⟨x, hx, e⟩ => owns_cells (h.each x hx) e ho)
theorem OwnPa.cells {M : Nat → Prop} {W : World} {v : Value} {L : List PaV} (h : OwnPa M W v L) {k : Nat} (hk : blkPa v L k) {o : Obj} (ho : W.heap[k]? = some o) : o.isCells = true :=
  hk.elim (fun e => owns_cells h.own e ho) (fun ⟨x, hx, e⟩ => e.elim (fun e => owns_cells (h.e1 x hx) e ho) (fun e => owns_cells (h.e2 x hx) e ho))

/-- The rows that are gathered, in the box X; B: all that they are lies from there on; M: others' blocks. -/
structure MemV (M : Nat → Prop) (B X : Nat) (W : World) (vl vg vp : Value) (Ll Lg : List PzV) (Lp : List PaV) : Prop where
  row : RowAt W X 27 #[vl, vg, vp]
  l : OwnPz (blkPz vl Ll) W vl Ll
  g : OwnPz (blkPz vg Lg) W vg Lg
  p : OwnPa (blkPa vp Lp) W vp Lp
  dl : ∀ k, blkPz vl Ll k → (B ≤ k ∧ k ≠ X ∧ ¬ M k) ∧ ¬ blkPz vg Lg k ∧ ¬ blkPa vp Lp k
  dg : ∀ k, blkPz vg Lg k → (B ≤ k ∧ k ≠ X ∧ ¬ M k) ∧ ¬ blkPa vp Lp k
  dp : ∀ k, blkPa vp Lp k → B ≤ k ∧ k ≠ X ∧ ¬ M k
  xm : ¬ M X
def rzV (Ll Lg : List PzV) (Lp : List PaV) : Rz := ⟨Ll.map PzV.m, Lg.map PzV.m, Lp.map PaV.m⟩
theorem MemV.nil {M : Nat → Prop} {B X : Nat} {W : World} (h : RowAt W X 27 #[.slice none 0 0, .slice none 0 0, .slice none 0 0]) (hx : ¬ M X) : MemV M B X W (.slice none 0 0) (.slice none 0 0) (.slice none 0 0) [] [] [] := by
  have e1 : ∀ k, ¬ blkPz (.slice none 0 0) [] k := fun k hk => hk.elim (fun h => by cases h) (fun ⟨x, hx, _⟩ => by cases hx)
  have e2 : ∀ k, ¬ blkPa (.slice none 0 0) [] k := fun k hk => hk.elim (fun h => by cases h) (fun ⟨x, hx, _⟩ => by cases hx)
  exact ⟨h, OwnPz.nil _ _, OwnPz.nil _ _, OwnPa.nil _ _, fun k hk => absurd hk (e1 k), fun k hk => absurd hk (e1 k), fun k hk => absurd hk (e2 k), hx⟩
/-- All that it is, is as it was. -/
theorem MemV.same {M M' : Nat → Prop} {B X : Nat} {W W' : World} {vl vg vp : Value} {Ll Lg : List PzV} {Lp : List PaV} (h : MemV M B X W vl vg vp Ll Lg Lp) (hk : ∀ k, k < W.heap.size → (k = X ∨ (B ≤ k ∧ ¬ M k)) → W'.heap[k]? = W.heap[k]?)
    (hm : ∀ k, k < W.heap.size → ¬ M k → ¬ M' k) : MemV M' B X W' vl vg vp Ll Lg Lp :=
  ⟨(hk X h.row.lt (.inl rfl)).trans h.row, h.l.of_block (fun k hb => hk k (h.l.blt k hb) (.inr ⟨(h.dl k hb).1.1, (h.dl k hb).1.2.2⟩)), h.g.of_block (fun k hb => hk k (h.g.blt k hb) (.inr ⟨(h.dg k hb).1.1, (h.dg k hb).1.2.2⟩)), h.p.of_block (fun k hb => hk k (h.p.blt k hb) (.inr ⟨(h.dp k hb).1, (h.dp k hb).2.2⟩)),
    fun k hb => ⟨⟨(h.dl k hb).1.1, (h.dl k hb).1.2.1, hm k (h.l.blt k hb) (h.dl k hb).1.2.2⟩, (h.dl k hb).2⟩, fun k hb => ⟨⟨(h.dg k hb).1.1, (h.dg k hb).1.2.1, hm k (h.g.blt k hb) (h.dg k hb).1.2.2⟩, (h.dg k hb).2⟩, fun k hb => ⟨(h.dp k hb).1, (h.dp k hb).2.1, hm k (h.p.blt k hb) (h.dp k hb).2.2⟩, hm X h.row.lt h.xm⟩
theorem MemV.its {M M' : Nat → Prop} {B X : Nat} {W W' : World} {vl vg vp : Value} {Ll Lg : List PzV} {Lp : List PaV} (h : MemV M B X W vl vg vp Ll Lg Lp) (g : Its M M' W W') : MemV M' B X W' vl vg vp Ll Lg Lp :=
  h.same (fun k hk hn => g.keep k hk (hn.elim (fun e => e ▸ h.xm) And.right)) (fun k hk hn hm => by rcases g.new k hm with e | e; exact hn e; omega)
theorem MemV.below {M : Nat → Prop} {B X : Nat} {W W' : World} {vl vg vp : Value} {Ll Lg : List PzV} {Lp : List PaV} (h : MemV M B X W vl vg vp Ll Lg Lp) (g : Below W.heap.size W W') : MemV M B X W' vl vg vp Ll Lg Lp :=
  h.same (fun k hk _ => g.block k hk) (fun _ _ h => h)
theorem MemV.turn {M : Nat → Prop} {B X : Nat} {W : World} {vl vg vp : Value} {Ll Lg : List PzV} {Lp : List PaV} (h : MemV M B X W vl vg vp Ll Lg Lp) {l : Nat} {o : Obj} (o' : Obj) (ho : W.heap[l]? = some o) (hoc : o.isCells = false) : MemV M B X (W.putObj l o') vl vg vp Ll Lg Lp := by
  have key : ∀ k, (∀ o : Obj, W.heap[k]? = some o → o.isCells = true) → (W.putObj l o').heap[k]? = W.heap[k]? := fun k hk => World.putObj_heap_other (fun e => by subst e; have := hk o ho; rw [hoc] at this; cases this)
  refine ⟨(key X (fun o e => by have := h.row; unfold RowAt at this; rw [this] at e; cases e; rfl)).trans h.row, h.l.of_block (fun k hb => key k (fun o e => h.l.cells hb e)), h.g.of_block (fun k hb => key k (fun o e => h.g.cells hb e)), h.p.of_block (fun k hb => key k (fun o e => h.p.cells hb e)), h.dl, h.dg, h.dp, h.xm⟩
/-- A block more that is kept. -/
theorem MemV.keepM {M : Nat → Prop} {B X : Nat} {W : World} {vl vg vp : Value} {Ll Lg : List PzV} {Lp : List PaV} (h : MemV M B X W vl vg vp Ll Lg Lp) (M' : Nat → Prop) (hm : ∀ k, k < W.heap.size → ¬ M k → ¬ M' k) : MemV M' B X W vl vg vp Ll Lg Lp := h.same (fun _ _ _ => rfl) hm

/-- What a step leaves for the others. -/
structure StepV (M : Nat → Prop) (W W' : World) : Prop where
  kept : Kept M W W'
  others : KeepsOthers W W'
theorem StepV.refl (M : Nat → Prop) (W : World) : StepV M W W := ⟨Kept.refl _ _, KeepsOthers.refl _⟩
theorem StepV.trans {M : Nat → Prop} {A B C : World} (h : StepV M A B) (g : StepV M B C) : StepV M A C := ⟨h.kept.trans g.kept, h.others.trans g.others⟩
theorem StepV.below {M : Nat → Prop} {W W' : World} (h : Below W.heap.size W W') : StepV M W W' := ⟨Kept.of_below h, ⟨h.size, fun k o hk _ => (h.block k (Array.getElem?_eq_some_iff.1 hk).1).trans hk⟩⟩

/-- A call that writes the blocks N alone, and the store of its value into the box. -/
theorem step_put {M N N' : Nat → Prop} {B X c : Nat} {W W' : World} {u : Value} {vs : Array Value} (hrow : RowAt W X 27 vs) (hi : Its N N' W W') (hN : ∀ k, N k → k ≠ X ∧ ¬ M k ∧ ∀ o, W.heap[k]? = some o → o.isCells = true) (hx : ¬ M X) :
    StepV M W (W'.setCell ⟨X, c, none⟩ u) ∧ RowAt (W'.setCell ⟨X, c, none⟩ u) X 27 (vs.setIfInBounds c u) := by
  have hr : RowAt W' X 27 vs := (hi.keep X hrow.lt (fun h => (hN X h).1 rfl)).trans hrow
  refine ⟨⟨⟨hi.os, hi.tape, hi.output, by simp [World.setCell]; exact hi.size, fun k hk hm => ?_⟩, ⟨by simp [World.setCell]; exact hi.size, fun k o hk ho => ?_⟩⟩, hr.same u⟩
  · rw [heap_setCell_other _ _ _ _ (fun e => hx (by have e' : k = X := e; rw [← e']; exact hm))]
    exact hi.keep k hk (fun h => (hN k h).2.1 hm)
  · have hkX : k ≠ X := fun e => by rw [e] at hk; unfold RowAt at hrow; rw [hrow] at hk; cases hk; cases ho
    rw [heap_setCell_other _ _ _ _ hkX]
    refine (hi.keep k (Array.getElem?_eq_some_iff.1 hk).1 (fun h => ?_)).trans hk
    have := (hN k h).2.2 o hk
    rw [ho] at this; cases this

theorem MemV.putL {M : Nat → Prop} {B X : Nat} {W W' : World} {vl vg vp v' : Value} {Ll Lg L' : List PzV} {Lp : List PaV} (h : MemV M B X W vl vg vp Ll Lg Lp) (hB : B ≤ W.heap.size) (hM : ∀ k, M k → k < W.heap.size)
    (ho : OwnPz (Mn (blkPz vl Ll) W W') W' v' L') (hi : Its (blkPz vl Ll) (Mn (blkPz vl Ll) W W') W W') : MemV M B X (W'.setCell ⟨X, 0, none⟩ v') v' vg vp L' Lg Lp ∧ StepV M W (W'.setCell ⟨X, 0, none⟩ v') := by
  obtain ⟨hs, hr⟩ := step_put (M := M) (B := B) (c := 0) (u := v') h.row hi (fun k hk => ⟨(h.dl k hk).1.2.1, (h.dl k hk).1.2.2, fun o e => h.l.cells hk e⟩) h.xm
  have hX := h.row.lt
  have nk : ∀ k, blkPz v' L' k → (blkPz vl Ll k ∨ W.heap.size ≤ k) := fun k hk => (ho.sub k hk).imp id And.left
  have nx : ∀ k, blkPz v' L' k → B ≤ k ∧ k ≠ X ∧ ¬ M k := fun k hk => by
    rcases nk k hk with e | e
    · exact (h.dl k e).1
    · exact ⟨by omega, by omega, fun hm => by have := hM k hm; omega⟩
  have set : ∀ k, k ≠ X → (W'.setCell ⟨X, 0, none⟩ v').heap[k]? = W'.heap[k]? := fun k hk => heap_setCell_other _ _ _ _ hk
  refine ⟨⟨hr, ho.tight.of_block (fun k hk => set k (nx k hk).2.1), h.g.of_block (fun k hk => (set k (h.dg k hk).1.2.1).trans (hi.keep k (h.g.blt k hk) (fun e => (h.dl k e).2.1 hk))), h.p.of_block (fun k hk => (set k (h.dp k hk).2.1).trans (hi.keep k (h.p.blt k hk) (fun e => (h.dl k e).2.2 hk))), ?_, h.dg, h.dp, h.xm⟩, hs⟩
  intro k hk
  refine ⟨nx k hk, fun e => ?_, fun e => ?_⟩
  · rcases nk k hk with e' | e'
    · exact (h.dl k e').2.1 e
    · have := h.g.blt k e; omega
  · rcases nk k hk with e' | e'
    · exact (h.dl k e').2.2 e
    · have := h.p.blt k e; omega
theorem MemV.putG {M : Nat → Prop} {B X : Nat} {W W' : World} {vl vg vp v' : Value} {Ll Lg L' : List PzV} {Lp : List PaV} (h : MemV M B X W vl vg vp Ll Lg Lp) (hB : B ≤ W.heap.size) (hM : ∀ k, M k → k < W.heap.size)
    (ho : OwnPz (Mn (blkPz vg Lg) W W') W' v' L') (hi : Its (blkPz vg Lg) (Mn (blkPz vg Lg) W W') W W') : MemV M B X (W'.setCell ⟨X, 1, none⟩ v') vl v' vp Ll L' Lp ∧ StepV M W (W'.setCell ⟨X, 1, none⟩ v') := by
  obtain ⟨hs, hr⟩ := step_put (M := M) (B := B) (c := 1) (u := v') h.row hi (fun k hk => ⟨(h.dg k hk).1.2.1, (h.dg k hk).1.2.2, fun o e => h.g.cells hk e⟩) h.xm
  have hX := h.row.lt
  have nk : ∀ k, blkPz v' L' k → (blkPz vg Lg k ∨ W.heap.size ≤ k) := fun k hk => (ho.sub k hk).imp id And.left
  have nx : ∀ k, blkPz v' L' k → B ≤ k ∧ k ≠ X ∧ ¬ M k := fun k hk => by
    rcases nk k hk with e | e
    · exact (h.dg k e).1
    · exact ⟨by omega, by omega, fun hm => by have := hM k hm; omega⟩
  have set : ∀ k, k ≠ X → (W'.setCell ⟨X, 1, none⟩ v').heap[k]? = W'.heap[k]? := fun k hk => heap_setCell_other _ _ _ _ hk
  refine ⟨⟨hr, h.l.of_block (fun k hk => (set k (h.dl k hk).1.2.1).trans (hi.keep k (h.l.blt k hk) (fun e => (h.dl k hk).2.1 e))), ho.tight.of_block (fun k hk => set k (nx k hk).2.1), h.p.of_block (fun k hk => (set k (h.dp k hk).2.1).trans (hi.keep k (h.p.blt k hk) (fun e => (h.dg k e).2 hk))), fun k hk => ⟨(h.dl k hk).1, fun e => ?_, (h.dl k hk).2.2⟩, fun k hk => ⟨nx k hk, fun e => ?_⟩, h.dp, h.xm⟩, hs⟩
  · rcases nk k e with e' | e'
    · exact (h.dl k hk).2.1 e'
    · have := h.l.blt k hk; omega
  · rcases nk k hk with e' | e'
    · exact (h.dg k e').2 e
    · have := h.p.blt k e; omega
theorem MemV.putP {M : Nat → Prop} {B X : Nat} {W W' : World} {vl vg vp v' : Value} {Ll Lg : List PzV} {Lp L' : List PaV} (h : MemV M B X W vl vg vp Ll Lg Lp) (hB : B ≤ W.heap.size) (hM : ∀ k, M k → k < W.heap.size)
    (ho : OwnPa (Mn (blkPa vp Lp) W W') W' v' L') (hi : Its (blkPa vp Lp) (Mn (blkPa vp Lp) W W') W W') : MemV M B X (W'.setCell ⟨X, 2, none⟩ v') vl vg v' Ll Lg L' ∧ StepV M W (W'.setCell ⟨X, 2, none⟩ v') := by
  obtain ⟨hs, hr⟩ := step_put (M := M) (B := B) (c := 2) (u := v') h.row hi (fun k hk => ⟨(h.dp k hk).2.1, (h.dp k hk).2.2, fun o e => h.p.cells hk e⟩) h.xm
  have hX := h.row.lt
  have nk : ∀ k, blkPa v' L' k → (blkPa vp Lp k ∨ W.heap.size ≤ k) := fun k hk => (ho.sub k hk).imp id And.left
  have nx : ∀ k, blkPa v' L' k → B ≤ k ∧ k ≠ X ∧ ¬ M k := fun k hk => by
    rcases nk k hk with e | e
    · exact h.dp k e
    · exact ⟨by omega, by omega, fun hm => by have := hM k hm; omega⟩
  have set : ∀ k, k ≠ X → (W'.setCell ⟨X, 2, none⟩ v').heap[k]? = W'.heap[k]? := fun k hk => heap_setCell_other _ _ _ _ hk
  refine ⟨⟨hr, h.l.of_block (fun k hk => (set k (h.dl k hk).1.2.1).trans (hi.keep k (h.l.blt k hk) (fun e => (h.dl k hk).2.2 e))), h.g.of_block (fun k hk => (set k (h.dg k hk).1.2.1).trans (hi.keep k (h.g.blt k hk) (fun e => (h.dg k hk).2 e))), ho.tight.of_block (fun k hk => set k (nx k hk).2.1), fun k hk => ⟨(h.dl k hk).1, (h.dl k hk).2.1, fun e => ?_⟩, fun k hk => ⟨(h.dg k hk).1, fun e => ?_⟩, fun k hk => nx k hk, h.xm⟩, hs⟩
  · rcases nk k e with e' | e'
    · exact (h.dl k hk).2.2 e'
    · have := h.l.blt k hk; omega
  · rcases nk k e with e' | e'
    · exact (h.dg k hk).2 e'
    · have := h.g.blt k hk; omega
end Go.Proofs.YtjfkgdfmkofbmaaGreatDoor
