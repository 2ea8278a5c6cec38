/- Rows of a call's own, cells that are put: small laws. -/
import Derived.Test.YtjfkgdfmkofbmaaGreatDoorZScM
import Derived.Test.YtjfkgdfmkofbmaaGreatDoorZAs
import Derived.Test.YtjfkgdfmkofbmaaGreatDoorZAppend
namespace Go.Proofs.YtjfkgdfmkofbmaaGreatDoor
set_option linter.unusedSimpArgs false
set_option linter.unusedVariables false
open Go.RowKit

/-- An element of a list of rows. -/
theorem flat_at {α : Type} {cs : α → List Value} {k : Nat} (hlen : ∀ x, (cs x).length = k) : ∀ {l : List α} {i : Nat} {x : α}, l[i]? = some x → ∀ {c : Nat} {u : Value}, (cs x)[c]? = some u → (l.flatMap cs)[i * k + c]? = some u := by
  intro l
  induction l with
  | nil => intro i x h; simp at h
  | cons z l ih =>
    intro i x h c u hu
    rw [List.flatMap_cons]
    cases i with
    | zero =>
      simp at h; subst h
      have hc : c < (cs z).length := (List.getElem?_eq_some_iff.1 hu).1
      rw [Nat.zero_mul, Nat.zero_add, List.getElem?_append_left hc]; exact hu
    | succ i =>
      have := ih (by simpa using h) hu
      rw [List.getElem?_append_right (by rw [hlen, Nat.add_mul]; omega), hlen, show (i + 1) * k + c - k = i * k + c by rw [Nat.add_mul]; omega]
      exact this
/-- A row of the call's own reads as the structs that were laid. -/
theorem rows_of_own {α : Type} {cs : α → List Value} {k : Nat} (hk : 0 < k) (hlen : ∀ x, (cs x).length = k) {W : World} {B : Nat} {e : TypeId} {v : Value} {l : List α} (h : W.ownsRow B e k v l.length (l.flatMap cs)) : RowsAt cs k W v l ∧ ∀ b, inBlk v b → B ≤ b := by
  rcases h.2 with ⟨rfl, h0⟩ | ⟨g, cap, cur, rfl, hbg, hg, hnc, hcm, hcs, htake⟩
  · have hl : l = [] := List.eq_nil_of_length_eq_zero h0
    subst hl
    exact ⟨RowsAt.nil W, fun b hb => hb.elim⟩
  · refine ⟨⟨some ⟨g, 0, none⟩, cap, rfl, hnc, hcm, fun _ => ⟨g, 0, rfl, fun i x hx c u hu => ?_⟩⟩, fun b hb => by have : g = b := hb.2; omega⟩
    have h2 := h.cells (g := g) rfl (i * k + c) u (flat_at hlen hx hu)
    have ea : (⟨g, 0, none⟩ : Addr).add (i * k + c) = ⟨g, 0 + i * k + c, none⟩ := by unfold Addr.add; split <;> simp_all [Nat.add_assoc]
    rwa [ea] at h2

theorem put1 {W : World} {J i : Nat} {C : Array Value} {t : TypeId} (u : Value) (h : W.heap[J]? = some (.cells C t (0, 0))) : W.grownBy (W.setCell ⟨J, i, none⟩ u) (some J) ∧ (W.setCell ⟨J, i, none⟩ u).heap[J]? = some (.cells (C.setIfInBounds i u) t (0, 0)) :=
  ⟨grownBy_setB _ _ _ _, heap_setCell_same W J i C t u h⟩
theorem put3 {W : World} {J i1 i2 i3 : Nat} {C : Array Value} {t : TypeId} (u1 u2 u3 : Value) (h : W.heap[J]? = some (.cells C t (0, 0))) :
    W.grownBy (((W.setCell ⟨J, i1, none⟩ u1).setCell ⟨J, i2, none⟩ u2).setCell ⟨J, i3, none⟩ u3) (some J) ∧ (((W.setCell ⟨J, i1, none⟩ u1).setCell ⟨J, i2, none⟩ u2).setCell ⟨J, i3, none⟩ u3).heap[J]? = some (.cells (((C.setIfInBounds i1 u1).setIfInBounds i2 u2).setIfInBounds i3 u3) t (0, 0)) := by
  have a := put1 (i := i1) u1 h
  have b := put1 (i := i2) u2 a.2
  have d := put1 (i := i3) u3 b.2
  exact ⟨grownBy_tr a.1 (grownBy_tr b.1 d.1), d.2⟩
theorem put6 {W : World} {J : Nat} {c0 c1 c2 c3 c4 c5 : Value} {t : TypeId} (u0 u1 u2 u3 u4 u5 : Value) (h : W.heap[J]? = some (.cells #[c0, c1, c2, c3, c4, c5] t (0, 0))) :
    W.grownBy ((((((W.setCell ⟨J, 0, none⟩ u0).setCell ⟨J, 1, none⟩ u1).setCell ⟨J, 2, none⟩ u2).setCell ⟨J, 3, none⟩ u3).setCell ⟨J, 4, none⟩ u4).setCell ⟨J, 5, none⟩ u5) (some J) ∧ ((((((W.setCell ⟨J, 0, none⟩ u0).setCell ⟨J, 1, none⟩ u1).setCell ⟨J, 2, none⟩ u2).setCell ⟨J, 3, none⟩ u3).setCell ⟨J, 4, none⟩ u4).setCell ⟨J, 5, none⟩ u5).heap[J]? = some (.cells #[u0, u1, u2, u3, u4, u5] t (0, 0)) := by
  have a := put3 (i1 := 0) (i2 := 1) (i3 := 2) u0 u1 u2 h
  have b := put3 (i1 := 3) (i2 := 4) (i3 := 5) u3 u4 u5 a.2
  exact ⟨grownBy_tr a.1 b.1, b.2⟩
theorem row6 {W : World} {X : Nat} {u0 u1 u2 u3 u4 u5 : Value} {t : TypeId} (h : W.heap[X]? = some (.cells #[u0, u1, u2, u3, u4, u5] t (0, 0))) : W.cell? ⟨X, 0, none⟩ = some u0 ∧ W.cell? ⟨X, 1, none⟩ = some u1 ∧ W.cell? ⟨X, 2, none⟩ = some u2 ∧ W.cell? ⟨X, 3, none⟩ = some u3 ∧ W.cell? ⟨X, 4, none⟩ = some u4 ∧ W.cell? ⟨X, 5, none⟩ = some u5 :=
  ⟨cell_of_row W X 0 _ _ _ h, cell_of_row W X 1 _ _ _ h, cell_of_row W X 2 _ _ _ h, cell_of_row W X 3 _ _ _ h, cell_of_row W X 4 _ _ _ h, cell_of_row W X 5 _ _ _ h⟩
end Go.Proofs.YtjfkgdfmkofbmaaGreatDoor
