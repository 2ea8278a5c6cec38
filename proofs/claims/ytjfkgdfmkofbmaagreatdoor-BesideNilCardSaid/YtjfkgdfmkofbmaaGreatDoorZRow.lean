/- A block of one value; what is kept of it. (For seats without the tries: there XSays, XKids, XFindB have the same words.) Plain laws. -/
import Derived.Test.YtjfkgdfmkofbmaaGreatDoorZAppend
namespace Go.Proofs.YtjfkgdfmkofbmaaGreatDoor
set_option linter.unusedSimpArgs false
set_option linter.unusedVariables false
open Go.RowKit

/-- A block of one value of the type t. -/
def RowAt (w : World) (X : Nat) (t : TypeId) (vs : Array Value) : Prop := w.heap[X]? = some (.cells vs t (0, 0))

theorem RowAt.lt {w : World} {X : Nat} {t : TypeId} {vs : Array Value} (h : RowAt w X t vs) : X < w.heap.size := by
  rcases Nat.lt_or_ge X w.heap.size with h' | h'
  · exact h'
  · unfold RowAt at h; rw [Array.getElem?_eq_none h'] at h; cases h

theorem RowAt.grown {w w' : World} {X : Nat} {t : TypeId} {vs : Array Value} {r : Option Nat} (h : RowAt w X t vs) (g : w.grownBy w' r) (hr : some X ≠ r) : RowAt w' X t vs := (g.block X h.lt hr).trans h

theorem RowAt.below {w w' : World} {X : Nat} {t : TypeId} {vs : Array Value} (h : RowAt w X t vs) (g : Below w.heap.size w w') : RowAt w' X t vs := (g.block X h.lt).trans h

theorem RowAt.other {W : World} {X K i : Nat} {t : TypeId} {vs : Array Value} (h : RowAt W X t vs) (hne : X ≠ K) (u : Value) : RowAt (W.setCell ⟨K, i, none⟩ u) X t vs := by
  unfold RowAt; rw [heap_setCell_other W _ X _ (by simpa using hne)]; exact h

theorem RowAt.same {W : World} {X i : Nat} {t : TypeId} {vs : Array Value} (h : RowAt W X t vs) (u : Value) : RowAt (W.setCell ⟨X, i, none⟩ u) X t (vs.setIfInBounds i u) := by
  unfold RowAt; rw [heap_setCell_same _ _ _ _ _ _ h]

theorem RowAt.cell {W : World} {X : Nat} {t : TypeId} {vs : Array Value} (h : RowAt W X t vs) (i : Nat) : W.cell? ⟨X, i, none⟩ = vs[i]? := cell_of_row W X i _ _ _ h
theorem RowAt.own {W : World} {X : Nat} {t : TypeId} {vs : Array Value} (h : RowAt W X t vs) (i : Nat) : W.frozen? ⟨X, i, none⟩ = false := frozen_of_row W X i _ _ h

theorem grownBy_set (w : World) (k i : Nat) (u : Value) : w.grownBy (w.setCell ⟨k, i, none⟩ u) (some k) :=
  ⟨rfl, rfl, rfl, by simp [World.setCell], fun j hj hr => heap_setCell_other w _ j u (by simp; exact fun e => hr (by rw [e]))⟩

theorem ownsRow_setOther {w : World} {base : Nat} {e : TypeId} {size : Nat} {v : Value} {n : Nat} {xs : List Value} (h : w.ownsRow base e size v n xs) {K i : Nat} (hk : v.ownBlock ≠ some K) (u : Value) : (w.setCell ⟨K, i, none⟩ u).ownsRow base e size v n xs :=
  h.kept (grownBy_set w K i u) (.inr hk)

theorem lt_of_cell {w : World} {a : Addr} {v : Value} (h : w.cell? a = some v) : a.block < w.heap.size := World.block_lt_of_cell? w a h
end Go.Proofs.YtjfkgdfmkofbmaaGreatDoor
