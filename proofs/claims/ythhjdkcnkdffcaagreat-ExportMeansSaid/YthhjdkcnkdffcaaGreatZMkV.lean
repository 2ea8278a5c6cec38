/- How the reference comes to the knots: plain laws. No program in sight. -/
import Derived.Test.YthhjdkcnkdffcaaGreatZMkS
import Derived.Test.YthhjdkcnkdffcaaGreatZSortM
import Derived.Test.YthhjdkcnkdffcaaGreatZMkK
import Derived.Test.YthhjdkcnkdffcaaGreatZMkT
namespace Go.Proofs.YthhjdkcnkdffcaaGreat
set_option linter.unusedSimpArgs false
set_option linter.unusedVariables false
/-! ### what is said -/
def atK (K : List Knot) (i : Nat) : Nat := ((K.take i).filter (fun k => k.says.isSome)).length
theorem atK_succ {K : List Knot} {i : Nat} {k : Knot} (hk : K[i]? = some k) : atK K (i + 1) = atK K i + (if k.says.isSome then 1 else 0) := by
  unfold atK
  rw [take_snoc hk, List.filter_append, List.length_append]
  congr 1
  cases h : k.says.isSome <;> simp [h]
theorem say_at : ∀ (N : List (List UInt8)) (l : List Exp) (i : Nat) (s : Option Exp) (nm : List UInt8), (sayIt N l).1[i]? = some s → N[i]? = some nm →
    (s = none ∧ ∀ x, l[(((sayIt N l).1.take i).filter Option.isSome).length]? = some x → x.name ≠ nm) ∨ (∃ x, s = some x ∧ l[(((sayIt N l).1.take i).filter Option.isSome).length]? = some x ∧ x.name = nm)
  | [], l, i, s, nm, h, h2 => by simp at h2
  | n :: ns, [], i, s, nm, h, h2 => by
    refine .inl ⟨?_, fun x hx => by simp at hx⟩
    rw [sayIt] at h
    cases i with
    | zero => simp at h; exact h.symm
    | succ i =>
      rcases say_at ns [] i s nm (by simpa using h) (by simpa using h2) with h3 | ⟨x, -, h4, -⟩
      · exact h3.1
      · simp at h4
  | n :: ns, y :: l, i, s, nm, h, h2 => by
    rw [sayIt] at h ⊢
    by_cases hy : y.name = n
    · rw [if_pos hy] at h ⊢
      cases i with
      | zero =>
        simp at h h2
        subst h2
        exact .inr ⟨y, h.symm, by simp, hy⟩
      | succ i =>
        have ih := say_at ns l i s nm (by simpa using h) (by simpa using h2)
        simpa using ih
    · rw [if_neg hy] at h ⊢
      cases i with
      | zero =>
        simp at h h2
        subst h2
        refine .inl ⟨h.symm, fun x hx => ?_⟩
        simp at hx; subst hx; exact hy
      | succ i =>
        have ih := say_at ns (y :: l) i s nm (by simpa using h) (by simpa using h2)
        simpa using ih
theorem atK_map (K : List Knot) (i : Nat) : (((K.map Knot.says).take i).filter Option.isSome).length = atK K i := by
  unfold atK
  rw [← List.map_take, List.filter_map, List.length_map]; rfl
/-! ### the children -/
def stK (N : Nat → List UInt8) (i : Nat) : List Nat × (Nat → List Nat) := (List.range i).foldl (stepK N) ([], fun _ => [])
theorem stK_succ (N : Nat → List UInt8) (i : Nat) : stK N (i + 1) = stepK N (stK N i) i := by
  unfold stK; rw [List.range_succ, List.foldl_append]; rfl
theorem popK_sub (N : Nat → List UInt8) (i : Nat) (st : List Nat) : popK N i st <:+ st := List.dropWhile_suffix _
theorem stK_lt (N : Nat → List UInt8) : ∀ i, (∀ j ∈ (stK N i).1, j < i) ∧ (stK N i).1.length ≤ i ∧ ∀ j, ((stK N i).2 j).length ≤ i
  | 0 => by simp [stK]
  | i + 1 => by
    obtain ⟨h1, h2, h3⟩ := stK_lt N i
    rw [stK_succ]
    have hs := popK_sub N i (stK N i).1
    have hl := hs.length_le
    refine ⟨fun j hj => ?_, ?_, fun j => ?_⟩
    · unfold stepK at hj
      rcases List.mem_cons.1 hj with rfl | hj
      · omega
      · have := h1 j (hs.subset hj); omega
    · unfold stepK; rw [List.length_cons]; omega
    · unfold stepK
      dsimp only
      cases hp : popK N i (stK N i).1 with
      | nil => exact Nat.le_trans (h3 j) (by omega)
      | cons u r =>
        show (if j = u then (stK N i).2 u ++ [i] else (stK N i).2 j).length ≤ i + 1
        split
        · have := h3 u; rw [List.length_append, List.length_singleton]; omega
        · exact Nat.le_trans (h3 j) (by omega)
theorem share_self (a b : List UInt8) : (shareL a b = a) ↔ a <+: b := by
  constructor
  · intro h
    have := share_right a b
    rw [h] at this; exact this
  · intro h
    exact prefix_eq (share_left a b) ((share_iff a b a).2 ⟨List.prefix_rfl, h⟩).length_le
/-- One that is open is closed. -/
theorem popK_skip {N : Nat → List UInt8} {i u : Nat} {st : List Nat} (h : ¬ N u <+: N i) : popK N i (u :: st) = popK N i st := by
  unfold popK
  rw [List.dropWhile_cons_of_pos]
  cases e : (N u).isPrefixOf (N i) with
  | false => rfl
  | true => exact absurd (List.isPrefixOf_iff_prefix.1 e) h
theorem popK_stop {N : Nat → List UInt8} {i u : Nat} {st : List Nat} (h : N u <+: N i) : popK N i (u :: st) = u :: st := by
  unfold popK
  rw [List.dropWhile_cons_of_neg]
  simpa using List.isPrefixOf_iff_prefix.2 h
/-- What the reference has at hand, when its rounds begin. -/
structure RefK (K : List Knot) (N : List (List UInt8)) (l : List Exp) : Prop where
  len : N.length = K.length
  kid : ∀ (i : Nat) (k : Knot) (nm : List UInt8), K[i]? = some k → N[i]? = some nm → ∀ r ∈ k.kids, r.2 < K.length ∧ N[r.2]? = some (nm ++ r.1)
  say : ∀ (i : Nat) (k : Knot) (nm : List UInt8), K[i]? = some k → N[i]? = some nm → (k.says = none ∧ ∀ x, l[atK K i]? = some x → x.name ≠ nm) ∨ (∃ x, k.says = some x ∧ l[atK K i]? = some x ∧ x.name = nm)
  nums : ∀ (i : Nat) (k : Knot), K[i]? = some k → (stK (fun j => N.getD j []) K.length).2 i = k.kids.map Prod.snd
theorem refK_of {l : List Exp} {F : Fo} (h : Tied [] l F) (hg : ∀ y ∈ l, GoodX y) : RefK (allK F) (allN F) l := by
  have hN : ∀ j, j < F.size + 1 → (fun j => (allN F).getD j []) j = (allN F).getD j [] := fun j _ => rfl
  refine ⟨by rw [allN_len, allK_len], fun i k nm hk hn r hr => ?_, fun i k nm hk hn => ?_, fun i k hk => ?_⟩
  · have h1 := allK_names (F := F) (fun j => (allN F).getD j []) hN hk r hr
    obtain ⟨-, -, -, h2⟩ := (allK_in h (fun y hy => (hg y hy).name3) k (List.mem_of_getElem? hk)).kids r hr
    refine ⟨by rw [allK_len]; exact h2, ?_⟩
    rw [List.getD_eq_getElem?_getD (l := allN F) (i := i), hn, Option.getD_some] at h1
    rw [← h1, List.getD_eq_getElem?_getD, List.getElem?_eq_getElem (by rw [allN_len]; exact h2)]; rfl
  · have h1 := saying_all h (fun y hy e => by have := (hg y hy).name1; rw [e] at this; simp at this)
    have h2 := say_at (allN F) l i k.says nm (by rw [h1, List.getElem?_map, hk]; rfl) hn
    rw [h1, atK_map] at h2
    exact h2
  · have hi : i < F.size + 1 := by rw [← allK_len]; exact (List.getElem?_eq_some_iff.1 hk).1
    have h1 := runK_all h (fun j => (allN F).getD j []) hN i hi
    unfold stK
    rw [allK_len, h1, List.getD_eq_getElem?_getD, List.getElem?_map, hk]; rfl
end Go.Proofs.YthhjdkcnkdffcaaGreat

namespace Go.Proofs.YthhjdkcnkdffcaaGreat
set_option linter.unusedSimpArgs false
set_option linter.unusedVariables false
open Go.RowKit
def natsV (l : List Nat) : List Value := l.map fun (n : Nat) => .int .i64 (n : Int)
structure Rr (W : World) (B : Nat) (v : Value) (L : List (Value × List Nat)) : Prop where
  row : W.ownsRow B 66 1 v L.length (L.map Prod.fst)
  kids : ∀ x ∈ L, W.ownsRow B 3 1 x.1 x.2.length (natsV x.2)
  away : ∀ x ∈ L, Apart x.1 v
  apart : L.Pairwise (fun x y => Apart x.1 y.1)
theorem Rr.below {W W' : World} {B : Nat} {v : Value} {L : List (Value × List Nat)} (h : Rr W B v L) (hb : Below W.heap.size W W') : Rr W' B v L :=
  ⟨ownsRow_below h.row hb, fun x hx => ownsRow_below (h.kids x hx) hb, h.away, h.apart⟩
theorem Rr.kept {W W' : World} {B : Nat} {v u u' : Value} {L : List (Value × List Nat)} (h : Rr W B v L) (hg : Grew W W' u u') (h1 : Apart v u) (h2 : ∀ x ∈ L, Apart x.1 u) : Rr W' B v L :=
  ⟨hg.own h.row h1, fun x hx => hg.own (h.kids x hx) (h2 x hx), h.away, h.apart⟩
/-- All are empty. -/
theorem Rr.start {W : World} {B : Nat} {v : Value} {n : Nat} (h : W.ownsRow B 66 1 v n (List.replicate n (.slice none 0 0))) : Rr W B v (List.replicate n (.slice none 0 0, [])) := by
  have hm : ∀ x ∈ List.replicate n ((.slice none 0 0 : Value), ([] : List Nat)), x = (.slice none 0 0, []) := fun x hx => List.eq_of_mem_replicate hx
  refine ⟨by rw [List.length_replicate, List.map_replicate]; exact h, fun x hx => ?_, fun x hx => ?_, ?_⟩
  · rw [hm x hx]; exact World.ownsRow_nil _ _ _ _
  · rw [hm x hx]; exact Apart.nil _
  · rw [List.pairwise_replicate]; exact .inr (Apart.nil _)
/-- A number more in one of them. -/
theorem Rr.kid {W W2 : World} {B : Nat} {g cap n : Nat} {L1 L2 : List (Value × List Nat)} {x : Value × List Nat} (h : Rr W B (.slice (some ⟨g, 0, none⟩) n cap) (L1 ++ x :: L2)) (hn : (L1 ++ x :: L2).length = n) (kv' : Value) (r : Nat)
    (hg : Grew W W2 x.1 kv') (ho : W2.ownsRow B 3 1 kv' (x.2.length + 1) (natsV x.2 ++ [.int .i64 (r : Int)])) :
    Rr (W2.setCell ⟨g, L1.length, none⟩ kv') B (.slice (some ⟨g, 0, none⟩) n cap) (L1 ++ (kv', x.2 ++ [r]) :: L2) := by
  subst hn
  have hB : B ≤ g := (h.row.lt g rfl).1
  have hgr := setC_grown W2 g L1.length kv'
  have hx : x ∈ L1 ++ x :: L2 := by simp
  have hrow2 : W2.ownsRow B 66 1 (.slice (some ⟨g, 0, none⟩) (L1 ++ x :: L2).length cap) (L1 ++ x :: L2).length ((L1 ++ x :: L2).map Prod.fst) := hg.own h.row (h.away x hx).symm
  have haw : Apart kv' (.slice (some ⟨g, 0, none⟩) (L1 ++ x :: L2).length cap) := (hg.apart h.row (h.away x hx).symm).symm
  have hothers : ∀ y, y ∈ L1 ∨ y ∈ L2 → y ∈ L1 ++ x :: L2 ∧ Apart y.1 x.1 := by
    intro y hy
    have h1 := h.apart
    rw [List.pairwise_append, List.pairwise_cons] at h1
    rcases hy with hy | hy
    · exact ⟨by simp [hy], h1.2.2 y hy x (by simp)⟩
    · exact ⟨by simp [hy], (h1.2.1.1 y hy).symm⟩
  have hmem : ∀ y ∈ L1 ++ (kv', x.2 ++ [r]) :: L2, y = (kv', x.2 ++ [r]) ∨ (y ∈ L1 ∨ y ∈ L2) := by
    intro y hy
    rcases List.mem_append.1 hy with hy | hy
    · exact .inr (.inl hy)
    · rcases List.mem_cons.1 hy with hy | hy
      · exact .inl hy
      · exact .inr (.inr hy)
  refine ⟨?_, fun y hy => ?_, fun y hy => ?_, ?_⟩
  · have h1 := owns_set hrow2 L1.length kv'
    rw [show ((L1 ++ x :: L2).map Prod.fst).set L1.length kv' = (L1 ++ (kv', x.2 ++ [r]) :: L2).map Prod.fst by
      rw [List.map_append, List.map_append, List.map_cons, List.map_cons, List.set_append_right _ _ (by simp)]; simp] at h1
    rw [show (L1 ++ (kv', x.2 ++ [r]) :: L2).length = (L1 ++ x :: L2).length by simp]
    exact h1
  · rcases hmem y hy with rfl | hy
    · rw [show natsV ((kv', x.2 ++ [r]) : Value × List Nat).2 = natsV x.2 ++ [.int .i64 (r : Int)] by simp [natsV], show ((kv', x.2 ++ [r]) : Value × List Nat).2.length = x.2.length + 1 by simp]
      exact ho.kept hgr (haw.not rfl)
    · obtain ⟨hy1, hy2⟩ := hothers y hy
      exact (hg.own (h.kids y hy1) hy2).kept hgr ((h.away y hy1).not rfl)
  · rcases hmem y hy with rfl | hy
    · exact haw
    · exact h.away y (hothers y hy).1
  · have h1 := h.apart
    rw [List.pairwise_append, List.pairwise_cons] at h1 ⊢
    refine ⟨h1.1, ⟨fun b hb => ?_, h1.2.1.2⟩, fun a ha b hb => ?_⟩
    · obtain ⟨hy1, hy2⟩ := hothers b (.inr hb)
      exact (hg.apart (h.kids b hy1) hy2).symm
    · obtain ⟨hy1, hy2⟩ := hothers a (.inl ha)
      rcases List.mem_cons.1 hb with rfl | hb
      · exact hg.apart (h.kids a hy1) hy2
      · exact h1.2.2 a ha b (by simp [hb])
theorem natsV_get {l : List Nat} {i n : Nat} (h : l[i]? = some n) : (natsV l)[i]? = some (.int .i64 (n : Int)) := by
  unfold natsV; rw [List.getElem?_map, h]; rfl
theorem natsV_app (a b : List Nat) : natsV (a ++ b) = natsV a ++ natsV b := by simp [natsV]
theorem owns_take {w : World} {base : Nat} {e : TypeId} {a : Option Addr} {n c k : Nat} {xs : List Value} (h : w.ownsRow base e 1 (.slice a n c) n xs) (hk : k ≤ n) (hn : 0 < n) : w.ownsRow base e 1 (.slice a k c) k (xs.take k) := by
  rcases h.2 with ⟨he, h0⟩ | ⟨g, c', cur, he, h1, h2, h3, h4, h5, h6⟩
  · omega
  · cases he
    refine ⟨by rw [List.length_take, h.1]; omega, .inr ⟨g, c, cur, rfl, h1, h2, by omega, h4, h5, ?_⟩⟩
    rw [← h6, List.take_take]
    congr 1
    omega
/-- The children so far, and the nodes that are open. -/
structure Kd (w2 W : World) (B : Nat) (v7 v8 : Value) (LL : List (Value × List Nat)) (st : List Nat) : Prop where
  bel : Below B w2 W
  big : B ≤ W.heap.size
  rows : Rr W B v7 LL
  opn : W.ownsRow B 3 1 v8 st.length (natsV st.reverse)
  ap7 : Apart v8 v7
  apk : ∀ x ∈ LL, Apart x.1 v8
theorem Kd.next {w2 W W' : World} {B : Nat} {v7 v8 : Value} {LL : List (Value × List Nat)} {st : List Nat} (h : Kd w2 W B v7 v8 LL st) (hb : Below W.heap.size W W') : Kd w2 W' B v7 v8 LL st :=
  ⟨h.bel.trans (hb.mono h.big), Nat.le_trans h.big hb.size, h.rows.below hb, ownsRow_below h.opn hb, h.ap7, h.apk⟩
theorem Kd.pop {w2 W : World} {B : Nat} {v7 : Value} {a : Option Addr} {n c u : Nat} {LL : List (Value × List Nat)} {st : List Nat} (h : Kd w2 W B v7 (.slice a (n + 1) c) LL (u :: st)) (hn : st.length = n) : Kd w2 W B v7 (.slice a n c) LL st := by
  subst hn
  have h1 := owns_take (k := st.length) h.opn (by simp) (by simp)
  have e : (natsV (u :: st).reverse).take st.length = natsV st.reverse := by
    rw [List.reverse_cons, natsV_app, List.take_left' (by simp [natsV])]
  rw [e] at h1
  exact ⟨h.bel, h.big, h.rows, h1, fun k hk => h.ap7 k (by cases a <;> exact hk), fun x hx k hk e => h.apk x hx k hk (by cases a <;> exact e)⟩
theorem Kd.push {w2 W W' : World} {B : Nat} {v7 v8 v8' : Value} {LL : List (Value × List Nat)} {st : List Nat} {i : Nat} (h : Kd w2 W B v7 v8 LL st) (hg : Grew W W' v8 v8') (ho : W'.ownsRow B 3 1 v8' (st.length + 1) (natsV st.reverse ++ [.int .i64 (i : Int)])) : Kd w2 W' B v7 v8' LL (i :: st) := by
  refine ⟨h.bel.trans (hg.below h.big (fun k hk => (h.opn.lt k hk).1)), Nat.le_trans h.big hg.size, h.rows.kept hg h.ap7.symm h.apk, ?_, (hg.apart h.rows.row h.ap7.symm).symm, fun x hx => hg.apart (h.rows.kids x hx) (h.apk x hx)⟩
  rw [List.reverse_cons, natsV_app]
  exact ho
theorem Kd.kid {w2 W W2 : World} {B : Nat} {g cap n : Nat} {v8 : Value} {L1 L2 : List (Value × List Nat)} {x : Value × List Nat} {st : List Nat} (h : Kd w2 W B (.slice (some ⟨g, 0, none⟩) n cap) v8 (L1 ++ x :: L2) st) (hn : (L1 ++ x :: L2).length = n) (kv' : Value) (r : Nat)
    (hg : Grew W W2 x.1 kv') (ho : W2.ownsRow B 3 1 kv' (x.2.length + 1) (natsV x.2 ++ [.int .i64 (r : Int)])) :
    Kd w2 (W2.setCell ⟨g, L1.length, none⟩ kv') B (.slice (some ⟨g, 0, none⟩) n cap) v8 (L1 ++ (kv', x.2 ++ [r]) :: L2) st := by
  have hx : x ∈ L1 ++ x :: L2 := by simp
  have hB : B ≤ g := (h.rows.row.lt g (by subst hn; rfl)).1
  have hb2 : Below B W W2 := hg.below h.big (fun k hk => ((h.rows.kids x hx).lt k hk).1)
  have hb3 : Below B W2 (W2.setCell ⟨g, L1.length, none⟩ kv') := ⟨rfl, rfl, rfl, by simp [World.setCell], fun k hk => setC_other W2 g _ k kv' (by omega)⟩
  refine ⟨(h.bel.trans hb2).trans hb3, Nat.le_trans (Nat.le_trans h.big hg.size) hb3.size, h.rows.kid hn kv' r hg ho, World.ownsRow.kept (hg.own h.opn (h.apk x hx).symm) (setC_grown _ _ _ _) (h.ap7.not rfl), h.ap7, fun y hy => ?_⟩
  rcases List.mem_append.1 hy with hy | hy
  · exact h.apk y (by simp [hy])
  · rcases List.mem_cons.1 hy with rfl | hy
    · exact (hg.apart h.opn (h.apk x hx).symm).symm
    · exact h.apk y (by simp [hy])
/-- What stands in the row of children. -/
def KfIs (LL : List (Value × List Nat)) (z : Nat) (kf : Nat → List Nat) : Prop := LL.length = z ∧ ∀ j x, LL[j]? = some x → x.2 = kf j
theorem KfIs.hang {L1 L2 : List (Value × List Nat)} {x : Value × List Nat} {z : Nat} {kf : Nat → List Nat} (h : KfIs (L1 ++ x :: L2) z kf) (kv' : Value) (i : Nat) (rest : List Nat) : KfIs (L1 ++ (kv', x.2 ++ [i]) :: L2) z (fun j => if j = L1.length then kf L1.length ++ [i] else kf j) := by
  refine ⟨by rw [← h.1]; simp, fun j y hy => ?_⟩
  have hxu := h.2 L1.length x (by rw [List.getElem?_append_right (Nat.le_refl _), Nat.sub_self]; rfl)
  by_cases hj : j = L1.length
  · subst hj
    rw [List.getElem?_append_right (Nat.le_refl _), Nat.sub_self] at hy
    simp at hy
    show y.2 = if L1.length = L1.length then kf L1.length ++ [i] else kf L1.length
    rw [← hy, if_pos rfl, ← hxu]
  · show y.2 = if j = L1.length then kf L1.length ++ [i] else kf j
    rw [if_neg hj]
    refine h.2 j y ?_
    by_cases hl : j < L1.length
    · rw [List.getElem?_append_left hl] at hy ⊢; exact hy
    · rw [List.getElem?_append_right (by omega)] at hy ⊢
      obtain ⟨d, hd⟩ : ∃ d, j - L1.length = d + 1 := ⟨j - L1.length - 1, by omega⟩
      rw [hd] at hy ⊢
      simpa using hy
theorem KfIs.split {LL : List (Value × List Nat)} {z : Nat} {kf : Nat → List Nat} (h : KfIs LL z kf) {u : Nat} (hu : u < z) : ∃ L1 x L2, LL = L1 ++ x :: L2 ∧ L1.length = u := by
  refine ⟨LL.take u, LL[u]'(by rw [h.1]; exact hu), LL.drop (u + 1), ?_, by rw [List.length_take, h.1]; omega⟩
  rw [← List.drop_eq_getElem_cons, List.take_append_drop]
end Go.Proofs.YthhjdkcnkdffcaaGreat

namespace Go.Proofs.YthhjdkcnkdffcaaGreat
set_option linter.unusedSimpArgs false
set_option linter.unusedVariables false
open Go.RowKit
def mixQ (N Z : List Nat) (i : Nat) : List Nat := N.take i ++ Z.drop i
theorem mixQ_zero (N Z : List Nat) : mixQ N Z 0 = Z := by simp [mixQ]
theorem mixQ_full {N Z : List Nat} {z : Nat} (h1 : N.length = z) (h2 : Z.length = z) : mixQ N Z z = N := by
  unfold mixQ
  rw [List.take_of_length_le (by omega), List.drop_of_length_le (by omega), List.append_nil]
theorem mixQ_step {N Z : List Nat} {z i x : Nat} (h1 : N.length = z) (h2 : Z.length = z) (hi : i < z) (hx : N[i]? = some x) : (mixQ N Z i).set i x = mixQ N Z (i + 1) := by
  unfold mixQ
  have h3 : (N.take i).length = i := by rw [List.length_take]; omega
  rw [List.set_append_right _ _ (by omega), h3, Nat.sub_self, List.take_add_one, hx, List.append_assoc]
  congr 1
  rw [List.drop_eq_getElem_cons (by omega), List.set_cons_zero]; rfl
/-- What the reference reads in its rounds. -/
structure RefAt (W : World) (K : List Knot) (Nm : List (List UInt8)) (s : List Exp) (v0 : Value) (g6 B : Nat) : Prop where
  nm : ∀ (j : Nat) (nm : List UInt8), Nm[j]? = some nm → W.cell? ⟨g6, j, none⟩ = some (.string (mkS nm))
  kd : ∀ (j : Nat) (k : Knot), K[j]? = some k → ∃ a c, W.cell? ⟨B, j, none⟩ = some (.slice a k.kids.length c) ∧ ∀ (t : Nat) (r : List UInt8 × Nat), k.kids[t]? = some r → ∃ g, a = some ⟨g, 0, none⟩ ∧ W.cell? ⟨g, t, none⟩ = some (.int .i64 (r.2 : Int))
  es : ES W v0 s
theorem RefAt.next {W W' : World} {K : List Knot} {Nm : List (List UInt8)} {s : List Exp} {v0 : Value} {g6 B : Nat} (h : RefAt W K Nm s v0 g6 B) (hb : Below W.heap.size W W') : RefAt W' K Nm s v0 g6 B := by
  refine ⟨fun j nm hj => (hb.cell (p := ⟨g6, j, none⟩) (World.block_lt_of_cell? W _ (h.nm j nm hj))).trans (h.nm j nm hj), fun j k hj => ?_, h.es.below hb⟩
  obtain ⟨a, c, h1, h2⟩ := h.kd j k hj
  refine ⟨a, c, (hb.cell (p := ⟨B, j, none⟩) (World.block_lt_of_cell? W _ h1)).trans h1, fun t r hr => ?_⟩
  obtain ⟨g, h3, h4⟩ := h2 t r hr
  exact ⟨g, h3, (hb.cell (p := ⟨g, t, none⟩) (World.block_lt_of_cell? W _ h4)).trans h4⟩
/-- A round: the places, the next ones, the bytes. -/
structure Rq (w5 W : World) (z : Nat) (P Q : List Nat) (v11 v13 v12 : Value) (bs : List UInt8) : Prop where
  bel : Below w5.heap.size w5 W
  plc : W.ownsRow w5.heap.size 3 1 v11 z (natsV P)
  nxt : W.ownsRow w5.heap.size 3 1 v13 z (natsV Q)
  outb : OB W w5.heap.size 5 v12 bs
  ap1 : Apart v11 v12
  ap2 : Apart v13 v12
  ap3 : Apart v11 v13
theorem Rq.next {w5 W W' : World} {z : Nat} {P Q : List Nat} {v11 v13 v12 : Value} {bs : List UInt8} (h : Rq w5 W z P Q v11 v13 v12 bs) (hb : Below W.heap.size W W') : Rq w5 W' z P Q v11 v13 v12 bs :=
  ⟨h.bel.trans (hb.mono h.bel.size), ownsRow_below h.plc hb, ownsRow_below h.nxt hb, h.outb.below hb, h.ap1, h.ap2, h.ap3⟩
theorem Rq.app {w5 W W' : World} {z : Nat} {P Q : List Nat} {v11 v13 v12 v12' : Value} {bs bs' : List UInt8} (h : Rq w5 W z P Q v11 v13 v12 bs) (hg : Grew W W' v12 v12') (ho : OB W' w5.heap.size 5 v12' bs') : Rq w5 W' z P Q v11 v13 v12' bs' :=
  ⟨h.bel.trans (hg.below h.bel.size h.outb.high), hg.own h.plc h.ap1, hg.own h.nxt h.ap2, ho, hg.apart h.plc h.ap1, hg.apart h.nxt h.ap2, h.ap3⟩
theorem natsV_set (Q : List Nat) (i x : Nat) : (natsV Q).set i (.int .i64 (x : Int)) = natsV (Q.set i x) := by
  unfold natsV; rw [List.map_set]
theorem Rq.set {w5 W : World} {z n : Nat} {P Q : List Nat} {v11 v12 : Value} {g c : Nat} {bs : List UInt8} (h : Rq w5 W z P Q v11 (.slice (some ⟨g, 0, none⟩) n c) v12 bs) (hn : n = z) (i x : Nat) : Rq w5 (W.setCell ⟨g, i, none⟩ (.int .i64 (x : Int))) z P (Q.set i x) v11 (.slice (some ⟨g, 0, none⟩) n c) v12 bs := by
  subst hn
  have hg := (h.nxt.lt g rfl).1
  refine ⟨h.bel.trans ⟨rfl, rfl, rfl, by simp [World.setCell], fun k hk => setC_other W g i k _ (by omega)⟩, World.ownsRow.kept h.plc (setC_grown W g i _) (h.ap3.not rfl), ?_, h.outb.keptX (setC_grown W g i _) (fun e => h.ap2.symm g e rfl), h.ap1, h.ap2, h.ap3⟩
  have h1 := owns_set h.nxt i (.int .i64 (x : Int))
  rw [natsV_set] at h1
  exact h1
/-- A cell of the places. -/
theorem owns_nat {W : World} {base g n c : Nat} {P : List Nat} (h : W.ownsRow base 3 1 (.slice (some ⟨g, 0, none⟩) n c) n (natsV P)) {i x : Nat} (hx : P[i]? = some x) : W.cell? ⟨g, i, none⟩ = some (.int .i64 (x : Int)) ∧ W.frozen? ⟨g, i, none⟩ = false := by
  have hl : n = P.length := by have := h.1; simpa [natsV] using this.symm
  have hi := (List.getElem?_eq_some_iff.1 hx).1
  obtain ⟨g', c', hv, -, -, hc, hf⟩ := owns_cell h (by omega)
  obtain ⟨e1, -, -⟩ := Value.slice.inj hv
  obtain ⟨e1, -, -⟩ := Addr.mk.inj (Option.some.inj e1)
  subst e1
  exact ⟨hc i _ (natsV_get hx), hf i⟩
/-- So far the rounds. -/
def RoundQ (w5 : World) (z : Nat) (K : List Knot) (k : Nat) (v11 : Value) (wx : World) : Prop :=
  ∃ r g c, k = leftP (capB K + 1) (iterP K r) ∧ v11 = .slice (some ⟨g, 0, none⟩) z c ∧ Below w5.heap.size w5 wx ∧ wx.ownsRow w5.heap.size 3 1 (.slice (some ⟨g, 0, none⟩) z c) z (natsV (iterP K r))
/-- So far the nodes. -/
def NodesQ (w5 : World) (z : Nat) (K : List Knot) (P : List Nat) (v11 v13 v12 v14 v15 : Value) (wx : World) : Prop :=
  ∃ i, i ≤ z ∧ v15 = .int .i64 ((i : Nat) : Int) ∧ v14 = .int .i64 ((atK K i : Nat) : Int) ∧ Rq w5 wx z P (mixQ (nextP K P) (List.replicate z 0) i) v11 v13 v12 (outB (K.take i) P)
/-- So far one node's children. -/
def KidsQ (w5 : World) (z : Nat) (P Q : List Nat) (B1 : List UInt8) (kids : List (List UInt8 × Nat)) (v11 v13 v12 v16 : Value) (wx : World) : Prop :=
  ∃ t, t ≤ kids.length ∧ v16 = .int .i64 ((t : Nat) : Int) ∧ Rq w5 wx z P Q v11 v13 v12 (B1 ++ (kids.take t).flatMap (kidB P))
theorem atK_le {K : List Knot} {Nm : List (List UInt8)} {l : List Exp} (h : RefK K Nm l) (i : Nat) : atK K i ≤ i := by
  unfold atK
  exact Nat.le_trans (List.length_filter_le _ _) (by rw [List.length_take]; omega)
def sameQ (Q P : List Nat) (i : Nat) : Bool := (List.range i).all (fun a => Q.getD a 0 == P.getD a 0)
theorem sameQ_succ (Q P : List Nat) (i : Nat) : sameQ Q P (i + 1) = (sameQ Q P i && (Q.getD i 0 == P.getD i 0)) := by
  unfold sameQ; rw [List.range_succ, List.all_append]; simp
theorem sameQ_all {Q P : List Nat} {z : Nat} (h1 : Q.length = z) (h2 : P.length = z) : sameQ Q P z = true ↔ Q = P := by
  unfold sameQ
  rw [List.all_eq_true]
  constructor
  · intro h
    refine List.ext_getElem (by omega) (fun a ha hb => ?_)
    have h3 := h a (List.mem_range.2 (by omega))
    rw [beq_iff_eq, List.getD_eq_getElem?_getD, List.getD_eq_getElem?_getD, List.getElem?_eq_getElem ha, List.getElem?_eq_getElem hb] at h3
    exact h3
  · rintro rfl a _
    simp
end Go.Proofs.YthhjdkcnkdffcaaGreat
