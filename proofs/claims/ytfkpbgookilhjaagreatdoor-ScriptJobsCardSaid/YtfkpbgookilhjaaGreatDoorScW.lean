/- A writer: bytes of its own behind a pointer. Plain laws. -/
import Derived.Test.YtfkpbgookilhjaaGreatDoorGrew
import Derived.Test.YtfkpbgookilhjaaGreatDoorScM
namespace Go.Proofs.YtfkpbgookilhjaaGreatDoor
set_option linter.unusedSimpArgs false
set_option linter.unusedVariables false
open Go.RowKit

/-- The struct in the block c holds the slice v of the call's own, which reads as xs. -/
structure Wr (W : World) (c B : Nat) (v : Value) (xs : List UInt8) : Prop where
  box : W.heap[c]? = some (.cells #[v] 59 (0, 0))
  own : OB W B 5 v xs
  ne : v.ownBlock ≠ some c

/-- No other block was touched on the way. -/
structure Wrote (w w' : World) (c : Nat) (v v' : Value) : Prop where
  os : w'.os = w.os
  tape : w'.tape = w.tape
  output : w'.output = w.output
  size : w.heap.size ≤ w'.heap.size
  block : ∀ k, k < w.heap.size → k ≠ c → v.ownBlock ≠ some k → w'.heap[k]? = w.heap[k]?
  lies : v'.ownBlock = v.ownBlock ∨ ∃ k, v'.ownBlock = some k ∧ w.heap.size ≤ k
theorem Wrote.refl (w : World) (c : Nat) (v : Value) : Wrote w w c v v := ⟨rfl, rfl, rfl, Nat.le_refl _, fun _ _ _ _ => rfl, .inl rfl⟩
theorem Wrote.trans {a b d : World} {c : Nat} {u v x : Value} (h : Wrote a b c u v) (k : Wrote b d c v x) : Wrote a d c u x := by
  refine ⟨k.os.trans h.os, k.tape.trans h.tape, k.output.trans h.output, Nat.le_trans h.size k.size, fun i hi hc hu => ?_, ?_⟩
  · refine (k.block i (Nat.lt_of_lt_of_le hi h.size) hc fun e => ?_).trans (h.block i hi hc hu)
    rcases h.lies with h1 | ⟨j, h1, h2⟩
    · exact hu (h1.symm.trans e)
    · rw [h1] at e; cases e; omega
  · rcases k.lies with k1 | ⟨j, k1, k2⟩
    · rcases h.lies with h1 | ⟨j, h1, h2⟩
      · exact .inl (k1.trans h1)
      · exact .inr ⟨j, k1.trans h1, h2⟩
    · exact .inr ⟨j, k1, Nat.le_trans h.size k2⟩
/-- New blocks ahead of it; and behind it. -/
theorem Wrote.under {w w1 w' : World} {c : Nat} {v v' : Value} (hb : Below w.heap.size w w1) (h : Wrote w1 w' c v v') : Wrote w w' c v v' := by
  refine ⟨h.os.trans hb.os, h.tape.trans hb.tape, h.output.trans hb.output, Nat.le_trans hb.size h.size, fun i hi hc hv => (h.block i (Nat.lt_of_lt_of_le hi hb.size) hc hv).trans (hb.block i hi), ?_⟩
  rcases h.lies with h1 | ⟨j, h1, h2⟩
  · exact .inl h1
  · exact .inr ⟨j, h1, Nat.le_trans hb.size h2⟩
theorem Wrote.over {w w1 w' : World} {c : Nat} {v v' : Value} (h : Wrote w w1 c v v') (hb : Below w1.heap.size w1 w') : Wrote w w' c v v' :=
  ⟨hb.os.trans h.os, hb.tape.trans h.tape, hb.output.trans h.output, Nat.le_trans h.size hb.size, fun i hi hc hv => (hb.block i (Nat.lt_of_lt_of_le hi h.size)).trans (h.block i hi hc hv), h.lies⟩
/-- An append, and the slice put back. -/
theorem Wrote.put {w w1 : World} {c : Nat} {v v' : Value} (h : Grew w w1 v v') (hc : c < w.heap.size) : Wrote w (w1.setCell ⟨c, 0, none⟩ v') c v v' := by
  refine ⟨h.by_.os, h.by_.tape, h.by_.output, by simpa [World.setCell] using h.size, fun k hk hkc hv => ?_, h.lies⟩
  rw [heap_setCell_other _ _ k _ (by simpa using hkc)]
  exact h.block hk hv
theorem Wrote.below {w w' : World} {c B : Nat} {v v' : Value} (h : Wrote w w' c v v') (hB : B ≤ c) (hw : B ≤ w.heap.size) (hv : ∀ k, v.ownBlock = some k → B ≤ k) : Below B w w' :=
  ⟨h.os, h.tape, h.output, h.size, fun k hk => h.block k (by omega) (by omega) (fun e => by have := hv k e; omega)⟩
theorem Wr.put {w w1 : World} {c B : Nat} {v v' : Value} {xs ys : List UInt8} (h : Wr w c B v xs) (hg : Grew w w1 v v') (ho : OB w1 B 5 v' ys) : Wr (w1.setCell ⟨c, 0, none⟩ v') c B v' ys := by
  have hc := (Array.getElem?_eq_some_iff.1 h.box).1
  have hb1 := (hg.block hc h.ne).trans h.box
  have hne : v'.ownBlock ≠ some c := by
    rcases hg.lies with h1 | ⟨j, h1, h2⟩
    · rw [h1]; exact h.ne
    · rw [h1]; intro e; cases e; omega
  refine ⟨heap_setCell_same _ _ _ _ _ _ hb1, ?_, hne⟩
  have hkept : w1.grownBy (w1.setCell ⟨c, 0, none⟩ v') (some c) := ⟨rfl, rfl, rfl, by simp [World.setCell], fun k hk hr => heap_setCell_other w1 _ k v' (fun e => hr (by simp at e; rw [e]))⟩
  exact World.ownsRow.kept ho hkept (.inr hne)
theorem Wr.below {w w' : World} {c B : Nat} {v : Value} {xs : List UInt8} (h : Wr w c B v xs) (hb : Below w.heap.size w w') : Wr w' c B v xs :=
  ⟨(hb.block _ (Array.getElem?_eq_some_iff.1 h.box).1).trans h.box, h.own.below hb, h.ne⟩
theorem Wr.high {w : World} {c B : Nat} {v : Value} {xs : List UInt8} (h : Wr w c B v xs) : ∀ k, v.ownBlock = some k → B ≤ k := h.own.high
/-- Whatever does not lie in the writer reads on. -/
theorem BS.wrote {w w' : World} {c : Nat} {v v' u : Value} {l : List UInt8} (h : BS w u l) (hw : Wrote w w' c v v') (hc : ∀ k, inBlk u k → k ≠ c ∧ v.ownBlock ≠ some k) : BS w' u l :=
  h.of_block fun k hk hlt => hw.block k hlt (hc k hk).1 (hc k hk).2
end Go.Proofs.YtfkpbgookilhjaaGreatDoor
