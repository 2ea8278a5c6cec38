/- The reference's Map into an empty space: plain laws. -/
import Derived.Test.YtacmjpkcimjjpaaRsX
namespace Go.Proofs.Ytacmjpkcimjjpaa
set_option linter.unusedSimpArgs false
set_option linter.unusedVariables false
open Go.RowKit Go.Maps

/-- Three slices in a struct's block, each by itself; beside them blocks that none of them touches. -/
structure RRaw (n0 : Nat) (W : World) (o : Nat) (vA vB vP : Value) (nA nB nP : Nat) (cA cB cP : List Value) (ks : List Nat) : Prop where
  row : RowAt W o 44 #[vA, vB, vP]
  a : W.ownsRow n0 22 1 vA nA cA
  b : W.ownsRow n0 102 1 vB nB cB
  p : W.ownsRow n0 3 1 vP nP cP
  ab : Apart vA vB
  ap : Apart vA vP
  bp : Apart vB vP
  ne : vA.ownBlock ≠ some o ∧ vB.ownBlock ≠ some o ∧ vP.ownBlock ≠ some o
  far : ∀ k ∈ ks, k ≠ o ∧ vA.ownBlock ≠ some k ∧ vB.ownBlock ≠ some k ∧ vP.ownBlock ≠ some k ∧ k < W.heap.size
  lo : n0 ≤ o

section
variable {n0 : Nat} {W W' : World} {o : Nat} {vA vB vP v' : Value} {nA nB nP n' : Nat} {cA cB cP c' : List Value} {ks : List Nat}

theorem RRaw.below (h : RRaw n0 W o vA vB vP nA nB nP cA cB cP ks) (hb : Below W.heap.size W W') : RRaw n0 W' o vA vB vP nA nB nP cA cB cP ks :=
  ⟨h.row.below hb, ownsRow_below h.a hb, ownsRow_below h.b hb, ownsRow_below h.p hb, h.ab, h.ap, h.bp, h.ne, fun k hk => ⟨(h.far k hk).1, (h.far k hk).2.1, (h.far k hk).2.2.1, (h.far k hk).2.2.2.1, Nat.lt_of_lt_of_le (h.far k hk).2.2.2.2 hb.size⟩, h.lo⟩

theorem RRaw.add (h : RRaw n0 W o vA vB vP nA nB nP cA cB cP ks) {k : Nat} (hk : k < W.heap.size) (h1 : k ≠ o) (h2 : vA.ownBlock ≠ some k) (h3 : vB.ownBlock ≠ some k) (h4 : vP.ownBlock ≠ some k) : RRaw n0 W o vA vB vP nA nB nP cA cB cP (ks ++ [k]) :=
  ⟨h.row, h.a, h.b, h.p, h.ab, h.ap, h.bp, h.ne, fun j hj => by
    rcases List.mem_append.1 hj with hj | hj
    · exact h.far j hj
    · simp at hj; subst hj; exact ⟨h1, h2, h3, h4, hk⟩, h.lo⟩

theorem grew_ne {w w' : World} {v v' : Value} (g : Grew w w' v v') {k : Nat} (hk : k < w.heap.size) (hv : v.ownBlock ≠ some k) : v'.ownBlock ≠ some k := by
  intro e
  rcases g.lies with h1 | ⟨j, h1, h2⟩
  · exact hv (h1.symm.trans e)
  · rw [h1] at e; cases e; omega

/-- The first one has grown, and is put back. -/
theorem RRaw.growA (h : RRaw n0 W o vA vB vP nA nB nP cA cB cP ks) (g : Grew W W' vA v') (hown : W'.ownsRow n0 22 1 v' n' c') : RRaw n0 (W'.setCell ⟨o, 0, none⟩ v') o v' vB vP n' nB nP c' cB cP ks := by
  have hr : RowAt W' o 44 #[vA, vB, vP] := (g.block h.row.lt h.ne.1).trans h.row
  have n1 := grew_ne g h.row.lt h.ne.1
  refine ⟨hr.same v', ownsRow_setOther hown n1 _, ownsRow_setOther (g.own h.b h.ab.symm) h.ne.2.1 _, ownsRow_setOther (g.own h.p h.ap.symm) h.ne.2.2 _, (g.apart h.b h.ab.symm).symm, (g.apart h.p h.ap.symm).symm, h.bp, ⟨n1, h.ne.2⟩, fun k hk => ?_, h.lo⟩
  obtain ⟨f1, f2, f3, f4, f5⟩ := h.far k hk
  exact ⟨f1, grew_ne g f5 f2, f3, f4, by have := g.size; simp only [World.setCell, Array.size_modify]; omega⟩

theorem RRaw.growB (h : RRaw n0 W o vA vB vP nA nB nP cA cB cP ks) (g : Grew W W' vB v') (hown : W'.ownsRow n0 102 1 v' n' c') : RRaw n0 (W'.setCell ⟨o, 1, none⟩ v') o vA v' vP nA n' nP cA c' cP ks := by
  have hr : RowAt W' o 44 #[vA, vB, vP] := (g.block h.row.lt h.ne.2.1).trans h.row
  have n1 := grew_ne g h.row.lt h.ne.2.1
  refine ⟨hr.same v', ownsRow_setOther (g.own h.a h.ab) h.ne.1 _, ownsRow_setOther hown n1 _, ownsRow_setOther (g.own h.p h.bp.symm) h.ne.2.2 _, g.apart h.a h.ab, h.ap, (g.apart h.p h.bp.symm).symm, ⟨h.ne.1, n1, h.ne.2.2⟩, fun k hk => ?_, h.lo⟩
  obtain ⟨f1, f2, f3, f4, f5⟩ := h.far k hk
  exact ⟨f1, f2, grew_ne g f5 f3, f4, by have := g.size; simp only [World.setCell, Array.size_modify]; omega⟩

theorem RRaw.growP (h : RRaw n0 W o vA vB vP nA nB nP cA cB cP ks) (g : Grew W W' vP v') (hown : W'.ownsRow n0 3 1 v' n' c') : RRaw n0 (W'.setCell ⟨o, 2, none⟩ v') o vA vB v' nA nB n' cA cB c' ks := by
  have hr : RowAt W' o 44 #[vA, vB, vP] := (g.block h.row.lt h.ne.2.2).trans h.row
  have n1 := grew_ne g h.row.lt h.ne.2.2
  refine ⟨hr.same v', ownsRow_setOther (g.own h.a h.ap) h.ne.1 _, ownsRow_setOther (g.own h.b h.bp) h.ne.2.1 _, ownsRow_setOther hown n1 _, h.ab, g.apart h.a h.ap, g.apart h.b h.bp, ⟨h.ne.1, h.ne.2.1, n1⟩, fun k hk => ?_, h.lo⟩
  obtain ⟨f1, f2, f3, f4, f5⟩ := h.far k hk
  exact ⟨f1, f2, f3, grew_ne g f5 f4, by have := g.size; simp only [World.setCell, Array.size_modify]; omega⟩

/-- What a block that is none of the three's keeps. -/
theorem grow_block {v : Value} (g : Grew W W' v v') {i k : Nat} {u : Value} (hk : k < W.heap.size) (ho : k ≠ o) (hv : v.ownBlock ≠ some k) : (W'.setCell ⟨o, i, none⟩ u).heap[k]? = W.heap[k]? := by
  rw [heap_setCell_other _ _ k _ (by simpa using ho)]
  exact g.block hk hv

/-- What lies below stays. -/
theorem grow_below {B : Nat} {w : World} {v : Value} (hb : Below B w W) (g : Grew W W' v v') (hB : B ≤ W.heap.size) (hv : ∀ k, v.ownBlock = some k → B ≤ k) (ho : B ≤ o) (i : Nat) (u : Value) : Below B w (W'.setCell ⟨o, i, none⟩ u) :=
  (hb.trans (g.below hB hv)).setCell (p := ⟨o, i, none⟩) ho _
end

/-- A space out of three slices and its pages' bytes. -/
theorem RSp.of_raw {n0 : Nat} {W : World} {o : Nat} {vA vB vP : Value} {pgs : List Pg} (h : RRaw n0 W o vA vB vP pgs.length pgs.length pgs.length (atCells pgs) (bCells pgs) (pCells pgs) (pgs.map (·.blk)))
    (hp : ∀ g ∈ pgs, RowAt W g.blk 5 (u8s g.bytes).toArray ∧ g.bytes.length = 4096 ∧ g.no < 34359738368 ∧ n0 ≤ g.blk) (hn : pgs.Pairwise (fun x y => x.no < y.no)) (hb : pgs.Pairwise (fun x y => x.blk ≠ y.blk)) : RSp n0 W o vA vB vP pgs :=
  ⟨h.row, h.a, h.b, h.p, hp, hn, hb, ⟨h.ne.1, h.ne.2.1, h.ne.2.2, fun g hg => by
    obtain ⟨f1, f2, f3, f4, f5⟩ := h.far g.blk (List.mem_map.2 ⟨g, hg, rfl⟩)
    exact ⟨f1, f2, f3, f4⟩⟩, h.lo⟩
end Go.Proofs.Ytacmjpkcimjjpaa
