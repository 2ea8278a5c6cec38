/- Knots in memory with their places, as they are read; a copy of them (slices.Clone). -/
import Derived.Test.YthhjdkcnkdffcaaGreatZMkH
import Derived.Test.YthhjdkcnkdffcaaGreatZMkS
namespace Go.Proofs.YthhjdkcnkdffcaaGreat
set_option linter.unusedSimpArgs false
set_option linter.unusedVariables false
open Go.RowKit
def KV.cellsP (x : KV) (p : Nat) : List Value := [x.ptr, x.kv, .int .i64 (p : Int)]
def kvsP : List KV → List Nat → List Value
  | x :: L, p :: P => x.cellsP p ++ kvsP L P
  | _, _ => []
theorem kvsP_len : ∀ (L : List KV) (P : List Nat), P.length = L.length → (kvsP L P).length = L.length * 3
  | [], [], _ => rfl
  | x :: L, p :: P, h => by
    have ih := kvsP_len L P (by simpa using h)
    rw [kvsP, List.length_append, ih, List.length_cons]
    show 3 + _ = _
    omega
  | [], _ :: _, h => by simp at h
  | _ :: _, [], h => by simp at h
/-- Knots with their places, as they are read. -/
structure KnR (W : World) (v : Value) (L : List KV) (P : List Nat) : Prop where
  plen : P.length = L.length
  row : ∃ g cap, v = .slice (some ⟨g, 0, none⟩) L.length cap ∧ L.length ≤ cap ∧ cap ≤ maxLen ∧ ∀ i u, (kvsP L P)[i]? = some u → W.cell? ⟨g, i, none⟩ = some u
  kids : ∀ x ∈ L, KS W x.kv x.kn.kids
  says : ∀ x ∈ L, SP W x.ptr x.kn.says
theorem SP.belowW {W W' : World} {ptr : Value} {s : Option Exp} (h : SP W ptr s) (hb : Below W.heap.size W W') : SP W' ptr s := by
  cases s with
  | none => exact h
  | some x =>
    obtain ⟨b, o, rfl, hc⟩ := h
    exact ⟨b, o, rfl, fun c u hu => by rw [hb.cell (p := ⟨b, o + c, none⟩) (World.block_lt_of_cell? W _ (hc c u hu))]; exact hc c u hu⟩
theorem KnR.below {W W' : World} {v : Value} {L : List KV} {P : List Nat} (h : KnR W v L P) (hb : Below W.heap.size W W') : KnR W' v L P := by
  obtain ⟨g, cap, hv, h1, h2, hc⟩ := h.row
  exact ⟨h.plen, ⟨g, cap, hv, h1, h2, fun i u hu => by rw [hb.cell (p := ⟨g, i, none⟩) (World.block_lt_of_cell? W _ (hc i u hu))]; exact hc i u hu⟩, fun x hx => (h.kids x hx).below hb, fun x hx => (h.says x hx).belowW hb⟩
theorem getD_some {P : List Nat} {i : Nat} (h : i < P.length) : P[i]? = some (P.getD i 0) := by
  rw [List.getD_eq_getElem?_getD, List.getElem?_eq_getElem h]; rfl
theorem kidCs_get : ∀ (l : List (List UInt8 × Nat)) (i : Nat) (r : List UInt8 × Nat), l[i]? = some r → (kidCs l)[i * 2]? = some (.string (mkS r.1)) ∧ (kidCs l)[i * 2 + 1]? = some (.int .i64 (r.2 : Int))
  | [], i, r, h => by simp at h
  | y :: l, i, r, h => by
    cases i with
    | zero => simp at h; subst h; exact ⟨rfl, rfl⟩
    | succ i =>
      obtain ⟨h1, h2⟩ := kidCs_get l i r (by simpa using h)
      rw [show (i + 1) * 2 = i * 2 + 2 by omega, show i * 2 + 2 + 1 = i * 2 + 1 + 2 by omega]
      exact ⟨h1, h2⟩
theorem KS.of_owns {W : World} {base : Nat} {v : Value} {l : List (List UInt8 × Nat)} (h : W.ownsRow base 193 2 v l.length (kidCs l)) (hl : l.length ≤ 140737488355328) : KS W v l := by
  rcases h.2 with ⟨rfl, h1⟩ | ⟨g, cap, cur, rfl, hb, hg, hnc, hcm, hcs, htake⟩
  · obtain rfl : l = [] := List.eq_nil_of_length_eq_zero h1
    exact ⟨none, 0, rfl, Nat.le_refl _, ⟨Nat.zero_le _, Nat.zero_le _⟩, fun h => absurd rfl h⟩
  · refine ⟨_, cap, rfl, hnc, ⟨hcm, hl⟩, fun hne => ⟨g, 0, rfl, fun i r hr => ?_⟩⟩
    have hpos : 0 < l.length := List.length_pos_iff.2 hne
    obtain ⟨g', cap', he, -, -, hc, -⟩ := owns_cell h hpos
    cases he
    obtain ⟨h1, h2⟩ := kidCs_get l i r hr
    rw [Nat.zero_add]
    exact ⟨hc _ _ h1, hc _ _ h2⟩
theorem mem_kvsP : ∀ (L : List KV) (P : List Nat), (∀ x ∈ L, x.ptr.oneCell' = true ∧ x.kv.oneCell' = true) → ∀ u ∈ kvsP L P, u.oneCell' = true
  | [], P, _, u, hu => by cases P <;> simp [kvsP] at hu
  | x :: L, [], _, u, hu => by simp [kvsP] at hu
  | x :: L, p :: P, h, u, hu => by
    rw [kvsP] at hu
    rcases List.mem_append.1 hu with hu | hu
    · simp [KV.cellsP] at hu
      rcases hu with rfl | rfl | rfl
      · exact (h x (by simp)).1
      · exact (h x (by simp)).2
      · rfl
    · exact mem_kvsP L P (fun y hy => h y (by simp [hy])) u hu
theorem SP.one {W : World} {ptr : Value} {s : Option Exp} (h : SP W ptr s) : ptr.oneCell' = true := by
  cases s with
  | none => rw [show ptr = .pointer none from h]; rfl
  | some x => obtain ⟨b, o, rfl, -⟩ := h; rfl
theorem KS.one {W : World} {v : Value} {l : List (List UInt8 × Nat)} (h : KS W v l) : v.oneCell' = true := by
  obtain ⟨p, cap, rfl, -⟩ := h; rfl
theorem Src.knots {P' : Program} {W : World} {tx e' : TypeId} (hk : P'.underlying tx = some (.slice e')) {v : Value} {L : List KV} {P : List Nat} (h : KnR W v L P) : Src P' 3 tx v L.length (kvsP L P) W := by
  obtain ⟨g, cap, rfl, h1, h2, hc⟩ := h.row
  refine Src.ofSlice W hk _ L.length cap (kvsP L P) (kvsP_len L P h.plen) (fun j u hu => ?_) (mem_kvsP L P fun x hx => ⟨(h.says x hx).one, (h.kids x hx).one⟩)
  have e1 : (⟨g, 0, none⟩ : Addr).add j = ⟨g, j, none⟩ := by unfold Addr.add; split <;> simp_all
  rw [e1]
  exact hc j u hu
end Go.Proofs.YthhjdkcnkdffcaaGreat

namespace Go.Proofs.YthhjdkcnkdffcaaGreat
set_option linter.unusedSimpArgs false
set_option linter.unusedVariables false
open Go.RowKit
theorem OB.keptX {W W' : World} {base : Nat} {e : TypeId} {v : Value} {l : List UInt8} (h : OB W base e v l) {k : Nat} (hg : W.grownBy W' (some k)) (hv : v.ownBlock ≠ some k) : OB W' base e v l :=
  World.ownsRow.kept h hg (.inr hv)
theorem iterP_small (K : List Knot) : ∀ r i, (iterP K r).getD i 0 ≤ capB K
  | 0, i => by
    unfold iterP
    rw [List.getD_eq_getElem?_getD, List.getElem?_replicate]
    split <;> simp
  | r + 1, i => by
    show (nextP K (iterP K r)).getD i 0 ≤ _
    by_cases hi : i < (nextP K (iterP K r)).length
    · have h1 : (nextP K (iterP K r))[i]? = some ((nextP K (iterP K r)).getD i 0) := getD_some hi
      have := nextP_lt K (iterP K r) _ (List.mem_of_getElem? h1)
      omega
    · rw [List.getD_eq_getElem?_getD, List.getElem?_eq_none (by omega)]; simp
end Go.Proofs.YthhjdkcnkdffcaaGreat

namespace Go.Proofs.YthhjdkcnkdffcaaGreat
set_option linter.unusedSimpArgs false
set_option linter.unusedVariables false
open Go.RowKit
def MakeEnd (w : World) (r : List UInt8 × Int) (e : Ending) (w' : World) : Prop :=
  (∃ a cap, e = .returned (.tuple #[.slice a r.1.length cap, .int .i64 r.2]) ∧ OB w' w.heap.size 5 (.slice a r.1.length cap) r.1) ∧ Below w.heap.size w w'
theorem makeEnd_none {w w' : World} {r : List UInt8 × Int} {z : Int} (hr : r = ([], z)) (hb : Below w.heap.size w w') : MakeEnd w r (.returned (.tuple #[.slice none 0 0, .int .i64 z])) w' := by
  subst hr
  exact ⟨⟨none, 0, rfl, OB.nil _ _ _⟩, hb⟩
/-- Neighbours among the first j differ. -/
def DiffTo (s : List Exp) (j : Nat) : Prop := ∀ i x y, i + 1 < j → s[i]? = some x → s[i + 1]? = some y → x.name ≠ y.name
end Go.Proofs.YthhjdkcnkdffcaaGreat
