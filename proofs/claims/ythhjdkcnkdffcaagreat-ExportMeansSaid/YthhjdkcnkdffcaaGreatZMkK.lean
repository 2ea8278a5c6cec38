/- Knots in memory, while they are tied: a row of them, each with children of its own. Plain laws over worlds. -/
import Derived.Test.YthhjdkcnkdffcaaGreatZMkA
import Derived.Test.YthhjdkcnkdffcaaGreatZRfL
namespace Go.Proofs.YthhjdkcnkdffcaaGreat
set_option linter.unusedSimpArgs false
set_option linter.unusedVariables false
open Go.RowKit
/-- A knot in memory: its pointer, its children's slice, what it stands for. -/
structure KV where
  ptr : Value
  kv : Value
  kn : Knot
def KV.cells (x : KV) : List Value := [x.ptr, x.kv, .int .i64 0]
def kidCs (l : List (List UInt8 × Nat)) : List Value := l.flatMap fun r => [.string (mkS r.1), .int .i64 (r.2 : Int)]
def KV.zero : KV := ⟨.pointer none, .slice none 0 0, ⟨none, []⟩⟩
theorem Apart.not {u v : Value} (h : Apart u v) {g : Nat} (hv : v.ownBlock = some g) : u.ownBlock = none ∨ u.ownBlock ≠ some g := .inr fun e => h g e hv
theorem setC_other (W : World) (K i k : Nat) (u : Value) (h : k ≠ K) : (W.setCell ⟨K, i, none⟩ u).heap[k]? = W.heap[k]? := by
  simp [World.setCell, Array.getElem?_modify, Ne.symm h]
theorem setC_row {W : World} {X i : Nat} {t : TypeId} {vs : Array Value} (h : W.heap[X]? = some (.cells vs t (0, 0))) (u : Value) : (W.setCell ⟨X, i, none⟩ u).heap[X]? = some (.cells (vs.setIfInBounds i u) t (0, 0)) := by
  simp [World.setCell, Array.getElem?_modify, h]
theorem setC_grown (W : World) (K i : Nat) (u : Value) : W.grownBy (W.setCell ⟨K, i, none⟩ u) (some K) :=
  ⟨rfl, rfl, rfl, by simp [World.setCell], fun k hk hne => setC_other W K i k u (fun e => hne (by rw [e]))⟩
theorem owns_set {W : World} {base : Nat} {e : TypeId} {size : Nat} {G n cap : Nat} {xs : List Value} (h : W.ownsRow base e size (.slice (some ⟨G, 0, none⟩) n cap) n xs) (i : Nat) (u : Value) :
    (W.setCell ⟨G, i, none⟩ u).ownsRow base e size (.slice (some ⟨G, 0, none⟩) n cap) n (xs.set i u) := by
  rcases h.2 with ⟨he, -⟩ | ⟨g, c, cur, he, h1, h2, h3, h4, h5, h6⟩
  · cases he
  · cases he
    refine ⟨by simp [h.1], .inr ⟨G, cap, cur.setIfInBounds i u, rfl, h1, setC_row h2 u, h3, h4, by simp [h5], ?_⟩⟩
    rw [← h6]
    simp [List.take_set]
theorem owns_cell {W : World} {base : Nat} {e : TypeId} {size : Nat} {v : Value} {n : Nat} {xs : List Value} (h : W.ownsRow base e size v n xs) (hn : 0 < n) :
    ∃ g cap, v = .slice (some ⟨g, 0, none⟩) n cap ∧ base ≤ g ∧ g < W.heap.size ∧ (∀ i u, xs[i]? = some u → W.cell? ⟨g, i, none⟩ = some u) ∧ ∀ i, W.frozen? ⟨g, i, none⟩ = false := by
  rcases h.2 with ⟨rfl, h0⟩ | ⟨g, cap, cur, rfl, hb, hg, hnc, hcm, hcs, htake⟩
  · omega
  · refine ⟨g, cap, rfl, hb, (Array.getElem?_eq_some_iff.1 hg).1, fun i u hu => ?_, fun i => frozen_of_row W g i _ _ hg⟩
    rw [cell_of_row W g i _ _ _ hg]
    rw [← htake, List.getElem?_take] at hu
    split at hu
    · simpa using hu
    · cases hu
end Go.Proofs.YthhjdkcnkdffcaaGreat
