/- What stands while a list of structs is read, whatever the structs are. Plain. -/
import Derived.Test.YtfkpbgookilhjaaGreatDoorZScH
namespace Go.Proofs.YtfkpbgookilhjaaGreatDoor
set_option linter.unusedSimpArgs false
set_option linter.unusedVariables false
open Go.RowKit

/-- An element: its cells, the slice that it holds, how that reads. -/
structure Shape (α : Type) where
  cs : α → List Value
  sl : α → Value
  rd : α → World → Prop
structure Shape.Ok {α : Type} (S : Shape α) : Prop where
  lt : ∀ x W b, S.rd x W → inBlk (S.sl x) b → b < W.heap.size
  keep : ∀ x W W', S.rd x W → (∀ b, inBlk (S.sl x) b → b < W.heap.size → W'.heap[b]? = W.heap[b]?) → S.rd x W'

/-- A slice of such elements of the call's own, each of which lies in new blocks apart from it. -/
structure OwnL {α : Type} (S : Shape α) (e : TypeId) (size : Nat) (B : Nat) (W : World) (o : Value) (done : List α) : Prop where
  own : W.ownsRow B e size o done.length (done.flatMap S.cs)
  each : ∀ x ∈ done, S.rd x W ∧ ∀ b, inBlk (S.sl x) b → B ≤ b ∧ o.ownBlock ≠ some b
theorem OwnL.nil {α : Type} (S : Shape α) (e : TypeId) (size B : Nat) (W : World) : OwnL S e size B W (.slice none 0 0) [] := ⟨World.ownsRow_nil _ _ _ _, by simp⟩
theorem OwnL.keep {α : Type} {S : Shape α} (hS : S.Ok) {e : TypeId} {size B : Nat} {W W' : World} {o : Value} {done : List α} {c : Nat} (h : OwnL S e size B W o done) (hc : c < B) (hg : W.grownBy W' (some c)) : OwnL S e size B W' o done :=
  ⟨World.ownsRow.kept h.own hg (.inr (fun e => by have := (World.ownsRow.lt h.own _ e).1; omega)),
   fun x hx => ⟨hS.keep x W W' (h.each x hx).1 (fun b hb hlt => hg.block b hlt (fun e => by have := ((h.each x hx).2 b hb).1; cases e; omega)), (h.each x hx).2⟩⟩
theorem OwnL.below {α : Type} {S : Shape α} (hS : S.Ok) {e : TypeId} {size B : Nat} {W W' : World} {o : Value} {done : List α} (h : OwnL S e size B W o done) (hb : Below W.heap.size W W') : OwnL S e size B W' o done :=
  ⟨ownsRow_below h.own hb, fun x hx => ⟨hS.keep x W W' (h.each x hx).1 (fun b _ hlt => hb.block b hlt), (h.each x hx).2⟩⟩
theorem OwnL.push {α : Type} {S : Shape α} (hS : S.Ok) {e : TypeId} {size B : Nat} {W W' : World} {o o' : Value} {done : List α} {x : α} (h : OwnL S e size B W o done) (hB : B ≤ W.heap.size) (hx : S.rd x W) (hf : ∀ b, inBlk (S.sl x) b → B ≤ b ∧ o.ownBlock ≠ some b)
    (hg : Grew W W' o o') (ho : W'.ownsRow B e size o' (done.length + 1) (done.flatMap S.cs ++ S.cs x)) : OwnL S e size B W' o' (done ++ [x]) := by
  have key : ∀ z, S.rd z W → (∀ b, inBlk (S.sl z) b → B ≤ b ∧ o.ownBlock ≠ some b) → S.rd z W' ∧ ∀ b, inBlk (S.sl z) b → B ≤ b ∧ o'.ownBlock ≠ some b := by
    intro z hz hzf
    refine ⟨hS.keep z W W' hz (fun b hb hlt => hg.block hlt (hzf b hb).2), fun b hb => ⟨(hzf b hb).1, ?_⟩⟩
    have hlt := hS.lt z W b hz hb
    rcases hg.lies with h1 | ⟨j, h1, h2⟩
    · rw [h1]; exact (hzf b hb).2
    · rw [h1]; intro e; cases e; omega
  refine ⟨by rw [List.length_append, List.flatMap_append]; simpa using ho, fun z hz => ?_⟩
  rcases List.mem_append.1 hz with h1 | h1
  · exact key z (h.each z h1).1 (h.each z h1).2
  · obtain rfl := List.mem_singleton.1 h1
    exact key z hx hf

/-- What stands while a list is read. -/
structure RdIn {α : Type} (S : Shape α) (e : TypeId) (size : Nat) (w W : World) (r c : Nat) (l : List UInt8) (k : Nat) (y : List UInt8) (o : Value) (done : List α) : Prop where
  rd : RdAt W r c l k
  left : l.drop k = y
  by_ : w.grownBy W (some c)
  own : OwnL S e size w.heap.size W o done
theorem RdIn.keep {α : Type} {S : Shape α} (hS : S.Ok) {e : TypeId} {size : Nat} {w W W' : World} {r c : Nat} {l y y' : List UInt8} {k k' : Nat} {o : Value} {done : List α} (h : RdIn S e size w W r c l k y o done) (hc : c < w.heap.size) (hr : RdAt W' r c l k') (hd : l.drop k' = y') (hg : W.grownBy W' (some c)) : RdIn S e size w W' r c l k' y' o done :=
  ⟨hr, hd, grownBy_tr h.by_ hg, h.own.keep hS hc hg⟩
theorem RdIn.below {α : Type} {S : Shape α} (hS : S.Ok) {e : TypeId} {size : Nat} {w W W' : World} {r c : Nat} {l y : List UInt8} {k : Nat} {o : Value} {done : List α} (h : RdIn S e size w W r c l k y o done) (hc : c < w.heap.size) (hb : Below W.heap.size W W') : RdIn S e size w W' r c l k y o done :=
  h.keep hS hc (h.rd.below hb) h.left (Below.all hb _)
theorem RdIn.push {α : Type} {S : Shape α} (hS : S.Ok) {e : TypeId} {size : Nat} {w W W' : World} {r c : Nat} {l y : List UInt8} {k : Nat} {o o' : Value} {done : List α} {x : α} (h : RdIn S e size w W r c l k y o done) (hw : r < w.heap.size ∧ c < w.heap.size) (hx : S.rd x W) (hf : ∀ b, inBlk (S.sl x) b → w.heap.size ≤ b ∧ o.ownBlock ≠ some b)
    (hg : Grew W W' o o') (ho : W'.ownsRow w.heap.size e size o' (done.length + 1) (done.flatMap S.cs ++ S.cs x)) : RdIn S e size w W' r c l k y o' (done ++ [x]) := by
  have hb : Below w.heap.size W W' := hg.below h.by_.size fun k hk => (World.ownsRow.lt h.own.own k hk).1
  refine ⟨⟨(hb.block r hw.1).trans h.rd.box, ?_, h.rd.ne⟩, h.left, ⟨hb.os.trans h.by_.os, hb.tape.trans h.by_.tape, hb.output.trans h.by_.output, Nat.le_trans h.by_.size hb.size, fun k hk hr => (hb.block k hk).trans (h.by_.block k hk hr)⟩, h.own.push hS h.by_.size hx hf hg ho⟩
  obtain ⟨v, hv, hvc, hk, hcc⟩ := h.rd.cur
  exact ⟨v, hv.under hb (fun b hbk => by have := hvc b hbk; omega), hvc, hk, (hb.block c hw.2).trans hcc⟩
/-- A slice that was new at W lies apart from one that was there. -/
theorem new_apart {W : World} {B : Nat} {e : TypeId} {size n : Nat} {o v : Value} {xs : List Value} (ho : W.ownsRow B e size o n xs) (hB : B ≤ W.heap.size) (hn : ∀ b, inBlk v b → W.heap.size ≤ b) : ∀ b, inBlk v b → B ≤ b ∧ o.ownBlock ≠ some b :=
  fun b hb => ⟨Nat.le_trans hB (hn b hb), fun e => by have := (World.ownsRow.lt ho b e).2; have := hn b hb; omega⟩

/-- Bytes behind a slice, as what an element holds. -/
theorem bs_lt {w : World} {v : Value} {l : List UInt8} (h : BS w v l) {b : Nat} (hb : inBlk v b) : b < w.heap.size := by
  obtain ⟨p, cap, rfl, g1, g2, g3⟩ := h
  have hpos := inBlk_pos hb
  obtain ⟨b', off, rfl, hcl⟩ := g3 (List.length_pos_iff.1 hpos)
  have h0 := World.block_lt_of_cell? w _ (hcl 0 _ (List.getElem?_eq_getElem hpos))
  have e : b' = b := hb.2
  rw [← e]; simpa using h0
end Go.Proofs.YtfkpbgookilhjaaGreatDoor
