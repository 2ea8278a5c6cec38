/- More plain helpers. No program in sight. -/
import Derived.Test.YtfkpbgookilhjaaGreatDoorKit
namespace Go.Proofs.YtfkpbgookilhjaaGreatDoor
set_option linter.unusedSimpArgs false
set_option linter.unusedVariables false
open Go.RowKit

/-- What is cut out of a slice lies in its block. -/
theorem cut_blk {p : Option Addr} {lo m a b N C k : Nat} (h : inBlk (.slice (subA p lo m) a b) k) (hN : 0 < N) : inBlk (.slice p N C) k := by
  cases p with
  | none =>
    have : subA none lo m = none := by unfold subA; split <;> rfl
    rw [this] at h
    exact h.elim
  | some x =>
    obtain ⟨x', e, hb⟩ : ∃ x', subA (some x) lo m = some x' ∧ x'.block = x.block := by
      unfold subA; split
      · exact ⟨x, rfl, rfl⟩
      · exact ⟨_, rfl, add_block x lo⟩
    rw [e] at h
    have h' : 0 < a ∧ x'.block = k := h
    exact ⟨hN, by rw [← hb]; exact h'.2⟩

theorem drewN_drewN (w : World) (a b : Nat) : (w.drewN a).drewN b = w.drewN (a + b) := by simp [World.drewN, Nat.add_assoc]
theorem ownsRow_drewN {w : World} {base : Nat} {e : TypeId} {size : Nat} {v : Value} {n : Nat} {xs : List Value} (h : w.ownsRow base e size v n xs) (q : Nat) : (w.drewN q).ownsRow base e size v n xs := h

@[go_sem, simp] theorem mkS_list (l : List UInt8) : (mkS l).toList = l := by rw [Lib.toList_data]; rfl
@[go_sem] theorem mkS_size' (l : List UInt8) : (mkS l).size = l.length := mkS_size l

theorem inBlk_pos {p : Option Addr} {n c k : Nat} (h : inBlk (.slice p n c) k) : 0 < n := by
  cases p with
  | none => exact h.elim
  | some a => exact h.1

end Go.Proofs.YtfkpbgookilhjaaGreatDoor
