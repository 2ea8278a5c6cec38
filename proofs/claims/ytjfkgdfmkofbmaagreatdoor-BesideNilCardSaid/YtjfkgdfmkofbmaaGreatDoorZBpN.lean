/- Patches of the call's own: how they lie apart; one more; the last one longer. -/
import Derived.Test.YtjfkgdfmkofbmaaGreatDoorZBpF
import Derived.Test.YtjfkgdfmkofbmaaGreatDoorZStepB
import Derived.Test.YtjfkgdfmkofbmaaGreatDoorZBpI
namespace Go.Proofs.YtjfkgdfmkofbmaaGreatDoor
set_option linter.unusedSimpArgs false
set_option linter.unusedVariables false
open Go.RowKit

structure PaV where
  at_ : Nat
  p1 : Option Addr
  c1 : Nat
  old : List UInt8
  p2 : Option Addr
  c2 : Nat
  new : List UInt8
abbrev PaV.s1 (x : PaV) : Value := .slice x.p1 x.old.length x.c1
abbrev PaV.s2 (x : PaV) : Value := .slice x.p2 x.new.length x.c2
def PaV.cells (x : PaV) : List Value := [.int .u64 (x.at_ : Int), x.s1, x.s2]
def PaV.m (x : PaV) : Gz := ⟨x.at_, x.old, x.new⟩
def PaV.blk (x : PaV) (k : Nat) : Prop := x.s1.ownBlock = some k ∨ x.s2.ownBlock = some k
theorem paLen (x : PaV) : x.cells.length = 3 := rfl

/-- A row of structs of three cells: where the i-th one lies. -/
theorem own3_rows {α : Type} {cs : α → List Value} (hc : ∀ x, (cs x).length = 3) {W : World} {B : Nat} {v : Value} {L : List α} {e : TypeId} (h : W.ownsRow B e 3 v L.length (L.flatMap cs)) {i : Nat} {x : α} (hx : L[i]? = some x) :
    ∃ g cap cur, v = .slice (some ⟨g, 0, none⟩) L.length cap ∧ W.heap[g]? = some (.cells cur e (0, 0)) ∧ ∀ c u, (cs x)[c]? = some u → cur[i * 3 + c]? = some u := by
  obtain ⟨hlen, ⟨rfl, h0⟩ | ⟨g, cap, cur, rfl, -, hb, h1, h2, h3, h4⟩⟩ := h
  · have := (List.getElem?_eq_some_iff.1 hx).1; omega
  · refine ⟨g, cap, cur, rfl, hb, ?_⟩
    have key : ∀ (l : List α) (i : Nat), l[i]? = some x → ∀ c u, (cs x)[c]? = some u → (l.flatMap cs)[i * 3 + c]? = some u := by
      intro l
      induction l with
      | nil => intro i h; simp at h
      | cons a t ih =>
        intro i hi c u hu
        rw [List.flatMap_cons]
        cases i with
        | zero =>
          cases hi
          rw [Nat.zero_mul, Nat.zero_add, List.getElem?_append_left (List.getElem?_eq_some_iff.1 hu).1]
          exact hu
        | succ j =>
          rw [List.getElem?_append_right (by rw [hc, Nat.add_mul]; omega), hc, show (j + 1) * 3 + c - 3 = j * 3 + c by omega]
          exact ih j (by simpa using hi) c u hu
    intro c u hu
    have hu' := key L i hx c u hu
    rw [← h4, List.getElem?_take] at hu'
    split at hu'
    · simpa using hu'
    · cases hu'
theorem flat3g {α : Type} {cs : α → List Value} (hc : ∀ x, (cs x).length = 3) (l : List α) : (l.flatMap cs).length = l.length * 3 := by
  induction l with
  | nil => rfl
  | cons a t ih => rw [List.flatMap_cons, List.length_append, ih, hc, List.length_cons]; omega
/-- A cell of the last one is another one. -/
theorem own3_set {α : Type} {cs : α → List Value} (hc : ∀ x, (cs x).length = 3) {W : World} {B : Nat} {g cap : Nat} {init : List α} {x : α} {e : TypeId} {c : Nat} {u : Value} (hcc : c < 3) {zs : List Value}
    (h : W.ownsRow B e 3 (.slice (some ⟨g, 0, none⟩) (init ++ [x]).length cap) (init ++ [x]).length (init.flatMap cs ++ zs)) :
    (W.setCell ⟨g, init.length * 3 + c, none⟩ u).ownsRow B e 3 (.slice (some ⟨g, 0, none⟩) (init ++ [x]).length cap) (init ++ [x]).length (init.flatMap cs ++ zs.set c u) := by
  obtain ⟨k1, ⟨k2, _⟩ | ⟨g', cap', cur, k2, k3, k4, k5, k6, k7, k8⟩⟩ := h
  · cases k2
  · cases k2
    refine ⟨by rw [List.length_append] at k1 ⊢; rw [List.length_set]; exact k1, .inr ⟨g, cap, cur.setIfInBounds (init.length * 3 + c) u, rfl, k3, heap_setCell_same W g _ cur _ _ k4, k5, k6, by simpa using k7, ?_⟩⟩
    rw [Array.toList_setIfInBounds, List.take_set, k8, List.set_append_right _ _ (by rw [flat3g hc]; omega), flat3g hc, show init.length * 3 + c - init.length * 3 = c by omega]

def okD (x : PaV) : Prop := x.old ≠ [] ∧ x.new.length = x.old.length ∧ x.at_ + x.old.length ≤ MAXA
/-- Patches of the call's own, in the blocks M; K: what holds of each. -/
structure OwnPaG (K : PaV → Prop) (M : Nat → Prop) (W : World) (v : Value) (L : List PaV) : Prop where
  own : W.ownsRow 0 94 3 v L.length (L.flatMap PaV.cells)
  e1 : ∀ x ∈ L, OB W 0 5 x.s1 x.old
  e2 : ∀ x ∈ L, OB W 0 5 x.s2 x.new
  mv : ∀ k, v.ownBlock = some k → M k
  mx : ∀ x ∈ L, ∀ k, x.blk k → M k ∧ v.ownBlock ≠ some k
  self : ∀ x ∈ L, ∀ k, x.s1.ownBlock = some k → x.s2.ownBlock ≠ some k
  pair : L.Pairwise (fun x y => ∀ k, x.blk k → ¬ y.blk k)
  ok : ∀ x ∈ L, K x
abbrev OwnPa := OwnPaG okD
theorem OwnPaG.nil {K : PaV → Prop} (M : Nat → Prop) (W : World) : OwnPaG K M W (.slice none 0 0) [] :=
  ⟨World.ownsRow_nil _ _ _ _, by simp, by simp, fun k hk => (by cases hk), by simp, by simp, List.Pairwise.nil, by simp⟩
theorem OwnPaG.widen {K : PaV → Prop} {M M' : Nat → Prop} {W : World} {v : Value} {L : List PaV} (h : OwnPaG K M W v L) (hm : ∀ k, M k → M' k) : OwnPaG K M' W v L :=
  ⟨h.own, h.e1, h.e2, fun k hk => hm k (h.mv k hk), fun x hx k hk => ⟨hm k (h.mx x hx k hk).1, (h.mx x hx k hk).2⟩, h.self, h.pair, h.ok⟩
theorem OwnPaG.of_block {K : PaV → Prop} {M : Nat → Prop} {W W' : World} {v : Value} {L : List PaV} (h : OwnPaG K M W v L) (hb : ∀ k, M k → W'.heap[k]? = W.heap[k]?) : OwnPaG K M W' v L :=
  ⟨owns_of_block h.own (fun k hk => hb k (h.mv k hk)), fun x hx => owns_of_block (h.e1 x hx) (fun k hk => hb k (h.mx x hx k (.inl hk)).1), fun x hx => owns_of_block (h.e2 x hx) (fun k hk => hb k (h.mx x hx k (.inr hk)).1), h.mv, h.mx, h.self, h.pair, h.ok⟩
theorem OwnPaG.lt {K : PaV → Prop} {M : Nat → Prop} {W : World} {v : Value} {L : List PaV} (h : OwnPaG K M W v L) : (∀ k, v.ownBlock = some k → k < W.heap.size) ∧ ∀ x ∈ L, ∀ k, x.blk k → k < W.heap.size :=
  ⟨fun k hk => (World.ownsRow.lt h.own k hk).2, fun x hx k hk => hk.elim (fun hk => (World.ownsRow.lt (h.e1 x hx) k hk).2) (fun hk => (World.ownsRow.lt (h.e2 x hx) k hk).2)⟩
theorem OwnPaG.below {K : PaV → Prop} {M : Nat → Prop} {W W' : World} {v : Value} {L : List PaV} (h : OwnPaG K M W v L) (hb : Below W.heap.size W W') : OwnPaG K M W' v L :=
  ⟨owns_of_block h.own (fun k hk => hb.block k (h.lt.1 k hk)), fun x hx => owns_of_block (h.e1 x hx) (fun k hk => hb.block k (h.lt.2 x hx k (.inl hk))), fun x hx => owns_of_block (h.e2 x hx) (fun k hk => hb.block k (h.lt.2 x hx k (.inr hk))), h.mv, h.mx, h.self, h.pair, h.ok⟩

/-- The last one is another one. -/
theorem OwnPaG.last {K : PaV → Prop} {M M' : Nat → Prop} {w W' : World} {g cap : Nat} {init : List PaV} {x x' : PaV} (h : OwnPaG K M w (.slice (some ⟨g, 0, none⟩) (init ++ [x]).length cap) (init ++ [x])) (hM : ∀ k, M k → M' k)
    (keep : ∀ k, M k → k ≠ g → ¬ x.blk k → W'.heap[k]? = w.heap[k]?) (own : W'.ownsRow 0 94 3 (.slice (some ⟨g, 0, none⟩) (init ++ [x]).length cap) (init ++ [x]).length (init.flatMap PaV.cells ++ x'.cells))
    (o1 : OB W' 0 5 x'.s1 x'.old) (o2 : OB W' 0 5 x'.s2 x'.new) (lies : ∀ k, x'.blk k → M' k ∧ (x.blk k ∨ ¬ M k)) (self : ∀ k, x'.s1.ownBlock = some k → x'.s2.ownBlock ≠ some k)
    (ok : K x') : OwnPaG K M' W' (.slice (some ⟨g, 0, none⟩) (init ++ [x]).length cap) (init ++ [x']) := by
  have hxm : x ∈ init ++ [x] := by simp
  have mg : M g := h.mv g rfl
  have hp := List.pairwise_append.1 h.pair
  have yk : ∀ y ∈ init, ∀ k, y.blk k → W'.heap[k]? = w.heap[k]? := fun y hy k hk => by
    have hm := h.mx y (List.mem_append_left _ hy) k hk
    exact keep k hm.1 (fun e => hm.2 (by rw [e]; rfl)) (hp.2.2 y hy x (by simp) k hk)
  have hfl : (init ++ [x']).flatMap PaV.cells = init.flatMap PaV.cells ++ x'.cells := by rw [List.flatMap_append]; simp
  have hll : (init ++ [x']).length = (init ++ [x]).length := by rw [List.length_append, List.length_append]; rfl
  refine ⟨by rw [hll, hfl]; exact own, ?_, ?_, fun k hk => hM k (h.mv k hk), ?_, ?_, ?_, ?_⟩
  · intro y hy
    rcases List.mem_append.1 hy with hy | hy
    · exact owns_of_block (h.e1 y (List.mem_append_left _ hy)) (fun k hk => yk y hy k (.inl hk))
    · rw [List.mem_singleton] at hy; subst hy; exact o1
  · intro y hy
    rcases List.mem_append.1 hy with hy | hy
    · exact owns_of_block (h.e2 y (List.mem_append_left _ hy)) (fun k hk => yk y hy k (.inr hk))
    · rw [List.mem_singleton] at hy; subst hy; exact o2
  · intro y hy k hk
    rcases List.mem_append.1 hy with hy | hy
    · have := h.mx y (List.mem_append_left _ hy) k hk
      exact ⟨hM k this.1, this.2⟩
    · rw [List.mem_singleton] at hy; subst hy
      obtain ⟨l1, l2⟩ := lies k hk
      refine ⟨l1, ?_⟩
      rcases l2 with l2 | l2
      · exact (h.mx x hxm k l2).2
      · exact fun e => l2 (h.mv k e)
  · intro y hy
    rcases List.mem_append.1 hy with hy | hy
    · exact h.self y (List.mem_append_left _ hy)
    · rw [List.mem_singleton] at hy; subst hy; exact self
  · refine List.pairwise_append.2 ⟨hp.1, List.pairwise_singleton _ _, fun y hy z hz k hk e => ?_⟩
    rw [List.mem_singleton] at hz; subst hz
    rcases (lies k e).2 with l2 | l2
    · exact hp.2.2 y hy x (by simp) k hk l2
    · exact l2 (h.mx y (List.mem_append_left _ hy) k hk).1
  · intro y hy
    rcases List.mem_append.1 hy with hy | hy
    · exact h.ok y (List.mem_append_left _ hy)
    · rw [List.mem_singleton] at hy; subst hy; exact ok
/-- One more. -/
theorem OwnPaG.snoc {K : PaV → Prop} {M M' : Nat → Prop} {w W' : World} {v v' : Value} {L : List PaV} {y : PaV} (h : OwnPaG K M w v L) (hM : ∀ k, M k → M' k) (keep : ∀ k, M k → v.ownBlock ≠ some k → W'.heap[k]? = w.heap[k]?)
    (own : W'.ownsRow 0 94 3 v' (L.length + 1) (L.flatMap PaV.cells ++ y.cells)) (lv : ∀ k, v'.ownBlock = some k → M' k ∧ (v.ownBlock = some k ∨ ¬ M k)) (ly : ∀ k, y.blk k → M' k ∧ (∀ x ∈ L, ¬ x.blk k) ∧ v'.ownBlock ≠ some k)
    (o1 : OB W' 0 5 y.s1 y.old) (o2 : OB W' 0 5 y.s2 y.new) (self : ∀ k, y.s1.ownBlock = some k → y.s2.ownBlock ≠ some k)
    (ok : K y) : OwnPaG K M' W' v' (L ++ [y]) := by
  have hfl : (L ++ [y]).flatMap PaV.cells = L.flatMap PaV.cells ++ y.cells := by rw [List.flatMap_append]; simp
  refine ⟨by rw [hfl, List.length_append]; exact own, ?_, ?_, fun k hk => (lv k hk).1, ?_, ?_, ?_, ?_⟩
  · intro x hx
    rcases List.mem_append.1 hx with hx | hx
    · exact owns_of_block (h.e1 x hx) (fun k hk => keep k (h.mx x hx k (.inl hk)).1 (h.mx x hx k (.inl hk)).2)
    · rw [List.mem_singleton] at hx; subst hx; exact o1
  · intro x hx
    rcases List.mem_append.1 hx with hx | hx
    · exact owns_of_block (h.e2 x hx) (fun k hk => keep k (h.mx x hx k (.inr hk)).1 (h.mx x hx k (.inr hk)).2)
    · rw [List.mem_singleton] at hx; subst hx; exact o2
  · intro x hx k hk
    rcases List.mem_append.1 hx with hx | hx
    · have hm := h.mx x hx k hk
      refine ⟨hM k hm.1, fun e => ?_⟩
      rcases (lv k e).2 with l | l
      · exact hm.2 l
      · exact l hm.1
    · rw [List.mem_singleton] at hx; subst hx
      exact ⟨(ly k hk).1, (ly k hk).2.2⟩
  · intro x hx
    rcases List.mem_append.1 hx with hx | hx
    · exact h.self x hx
    · rw [List.mem_singleton] at hx; subst hx; exact self
  · refine List.pairwise_append.2 ⟨h.pair, List.pairwise_singleton _ _, fun x hx z hz k hk e => ?_⟩
    rw [List.mem_singleton] at hz; subst hz
    exact (ly k e).2.1 x hx hk
  · intro x hx
    rcases List.mem_append.1 hx with hx | hx
    · exact h.ok x hx
    · rw [List.mem_singleton] at hx; subst hx; exact ok

theorem OwnPa.nil (M : Nat → Prop) (W : World) : OwnPa M W (.slice none 0 0) [] := OwnPaG.nil M W

/-- The boxes that patch's closure has. -/
structure BoxD (W : World) (b1 b2 b3 : Nat) (at_ : Nat) (o n : UInt8) : Prop where
  r1 : W.heap[b1]? = some (.cells #[.int .u64 (at_ : Int)] 36 (0, 0))
  r2 : W.heap[b2]? = some (.cells #[.int .u8 (o.toNat : Int)] 5 (0, 0))
  r3 : W.heap[b3]? = some (.cells #[.int .u8 (n.toNat : Int)] 5 (0, 0))
theorem BoxD.below {W W' : World} {b1 b2 b3 at_ : Nat} {o n : UInt8} (h : BoxD W b1 b2 b3 at_ o n) (hb : Below W.heap.size W W') : BoxD W' b1 b2 b3 at_ o n :=
  ⟨(hb.block _ (Array.getElem?_eq_some_iff.1 h.r1).1).trans h.r1, (hb.block _ (Array.getElem?_eq_some_iff.1 h.r2).1).trans h.r2, (hb.block _ (Array.getElem?_eq_some_iff.1 h.r3).1).trans h.r3⟩
theorem BoxD.cells {W : World} {b1 b2 b3 at_ : Nat} {o n : UInt8} (h : BoxD W b1 b2 b3 at_ o n) : W.cell? ⟨b1, 0, none⟩ = some (.int .u64 (at_ : Int)) ∧ W.cell? ⟨b2, 0, none⟩ = some (.int .u8 (o.toNat : Int)) ∧ W.cell? ⟨b3, 0, none⟩ = some (.int .u8 (n.toNat : Int)) :=
  ⟨cell_of_row W b1 0 _ _ _ h.r1, cell_of_row W b2 0 _ _ _ h.r2, cell_of_row W b3 0 _ _ _ h.r3⟩
/-- A patch's three cells. -/
structure AtD (W : World) (g o : Nat) (x : PaV) : Prop where
  c0 : W.cell? ⟨g, o, none⟩ = some (.int .u64 (x.at_ : Int))
  c1 : W.cell? ⟨g, o + 1, none⟩ = some x.s1
  c2 : W.cell? ⟨g, o + 2, none⟩ = some x.s2
theorem AtD.below {W W' : World} {g o : Nat} {x : PaV} (h : AtD W g o x) (hb : Below W.heap.size W W') : AtD W' g o x := by
  have hl : g < W.heap.size := World.block_lt_of_cell? W _ h.c0
  exact ⟨below_cell' hb hl h.c0, below_cell' hb hl h.c1, below_cell' hb hl h.c2⟩
theorem OwnPaG.atD {K : PaV → Prop} {M : Nat → Prop} {W : World} {g cap : Nat} {init : List PaV} {x : PaV} (h : OwnPaG K M W (.slice (some ⟨g, 0, none⟩) (init ++ [x]).length cap) (init ++ [x])) : AtD W g (init.length * 3) x ∧ ∃ cur, W.heap[g]? = some (.cells cur 94 (0, 0)) := by
  obtain ⟨g', cap', cur, e, hc, hu⟩ := own3_rows paLen h.own (i := init.length) (x := x) (by simp)
  cases e
  exact ⟨⟨by simp only [World.cell?, hc]; simpa using hu 0 _ rfl, by simp only [World.cell?, hc]; exact hu 1 _ rfl, by simp only [World.cell?, hc]; exact hu 2 _ rfl⟩, cur, hc⟩

/-- What patch leaves. -/
def PatchEnd (M : Nat → Prop) (w : World) (L : List PaV) (at_ : Nat) (o n : UInt8) (e : Ending) (w' : World) : Prop :=
  ∃ v' L', e = .returned v' ∧ OwnPa (Mn M w w') w' v' L' ∧ L'.map PaV.m = pushD (L.map PaV.m) ⟨at_, o, n⟩ ∧ Its M (Mn M w w') w w'
end Go.Proofs.YtjfkgdfmkofbmaaGreatDoor

namespace Go.Proofs.YtjfkgdfmkofbmaaGreatDoor
set_option linter.unusedSimpArgs false
set_option linter.unusedVariables false
open Go.RowKit

/-- While the last patch grows. -/
structure Pn (w W : World) (x : PaV) (v1 : Value) (l1 : List UInt8) (v2 : Value) (l2 : List UInt8) : Prop where
  os : W.os = w.os
  tape : W.tape = w.tape
  output : W.output = w.output
  size : w.heap.size ≤ W.heap.size
  keep : ∀ k, k < w.heap.size → ¬ x.blk k → W.heap[k]? = w.heap[k]?
  o1 : OB W 0 5 v1 l1
  o2 : OB W 0 5 v2 l2
  b1 : ∀ k, v1.ownBlock = some k → x.s1.ownBlock = some k ∨ w.heap.size ≤ k
  b2 : ∀ k, v2.ownBlock = some k → x.s2.ownBlock = some k ∨ w.heap.size ≤ k
  ap : Apart v1 v2
theorem Pn.below {w W W' : World} {x : PaV} {v1 v2 : Value} {l1 l2 : List UInt8} (h : Pn w W x v1 l1 v2 l2) (hb : Below W.heap.size W W') : Pn w W' x v1 l1 v2 l2 :=
  ⟨hb.os.trans h.os, hb.tape.trans h.tape, hb.output.trans h.output, Nat.le_trans h.size hb.size, fun k hk hn => (hb.block k (Nat.lt_of_lt_of_le hk h.size)).trans (h.keep k hk hn), h.o1.below hb, h.o2.below hb, h.b1, h.b2, h.ap⟩
theorem Pn.alloc {w W : World} {x : PaV} {v1 v2 : Value} {l1 l2 : List UInt8} (h : Pn w W x v1 l1 v2 l2) (o : Obj) : Pn w (W.alloc o) x v1 l1 v2 l2 := h.below ((Below.refl _ _).alloc (Nat.le_refl _) _)
theorem Pn.app1 {w W W' : World} {x : PaV} {v1 v2 v1' : Value} {l1 l2 l1' : List UInt8} (h : Pn w W x v1 l1 v2 l2) (hg : Grew W W' v1 v1') (ho : OB W' 0 5 v1' l1') : Pn w W' x v1' l1' v2 l2 := by
  refine ⟨hg.by_.os.trans h.os, hg.by_.tape.trans h.tape, hg.by_.output.trans h.output, Nat.le_trans h.size hg.size, fun k hk hn => ?_, ho, h.o2.own hg h.ap.symm, fun k hk => ?_, h.b2, (hg.apart h.o2 h.ap.symm).symm⟩
  · refine (hg.block (Nat.lt_of_lt_of_le hk h.size) (fun e => ?_)).trans (h.keep k hk hn)
    rcases h.b1 k e with e1 | e1
    · exact hn (.inl e1)
    · omega
  · rcases hg.lies with e | ⟨j, e, hj⟩
    · exact h.b1 k (e ▸ hk)
    · rw [e] at hk; cases hk; exact .inr (Nat.le_trans h.size hj)
theorem Pn.app2 {w W W' : World} {x : PaV} {v1 v2 v2' : Value} {l1 l2 l2' : List UInt8} (h : Pn w W x v1 l1 v2 l2) (hg : Grew W W' v2 v2') (ho : OB W' 0 5 v2' l2') : Pn w W' x v1 l1 v2' l2' := by
  refine ⟨hg.by_.os.trans h.os, hg.by_.tape.trans h.tape, hg.by_.output.trans h.output, Nat.le_trans h.size hg.size, fun k hk hn => ?_, h.o1.own hg h.ap, ho, h.b1, fun k hk => ?_, hg.apart h.o1 h.ap⟩
  · refine (hg.block (Nat.lt_of_lt_of_le hk h.size) (fun e => ?_)).trans (h.keep k hk hn)
    rcases h.b2 k e with e1 | e1
    · exact hn (.inr e1)
    · omega
  · rcases hg.lies with e | ⟨j, e, hj⟩
    · exact h.b2 k (e ▸ hk)
    · rw [e] at hk; cases hk; exact .inr (Nat.le_trans h.size hj)
/-- The cells that the region reads. -/
theorem Pn.cells {w W : World} {x : PaV} {v1 v2 : Value} {l1 l2 : List UInt8} (h : Pn w W x v1 l1 v2 l2) {g o b1 b2 b3 at_ : Nat} {on nn : UInt8} (ha : AtD w g o x) (hB : BoxD w b1 b2 b3 at_ on nn) (hg : ¬ x.blk g) (h2 : ¬ x.blk b2) (h3 : ¬ x.blk b3) :
    W.cell? ⟨g, o + 1, none⟩ = some x.s1 ∧ W.cell? ⟨g, o + 2, none⟩ = some x.s2 ∧ W.cell? ⟨b2, 0, none⟩ = some (.int .u8 (on.toNat : Int)) ∧ W.cell? ⟨b3, 0, none⟩ = some (.int .u8 (nn.toNat : Int)) := by
  have hl : g < w.heap.size := World.block_lt_of_cell? w _ ha.c0
  have l2 := (Array.getElem?_eq_some_iff.1 hB.r2).1
  have l3 := (Array.getElem?_eq_some_iff.1 hB.r3).1
  exact ⟨(World.cell?_of_block (h.keep g hl hg)).trans ha.c1, (World.cell?_of_block (h.keep g hl hg)).trans ha.c2, (World.cell?_of_block (h.keep b2 l2 h2)).trans hB.cells.2.1, (World.cell?_of_block (h.keep b3 l3 h3)).trans hB.cells.2.2⟩

/-- Behind both stores. -/
theorem pa_yes {M : Nat → Prop} {w W : World} {g cap : Nat} {init : List PaV} {x : PaV} {on nn : UInt8} {p1 p2 : Option Addr} {n1 n2 c1 c2 : Nat} (hlt : ∀ k, M k → k < w.heap.size) (h : OwnPa M w (.slice (some ⟨g, 0, none⟩) (init ++ [x]).length cap) (init ++ [x]))
    (hp : Pn w W x (.slice p1 n1 c1) (x.old ++ [on]) (.slice p2 n2 c2) (x.new ++ [nn])) (h1 : n1 = (x.old ++ [on]).length) (h2 : n2 = (x.new ++ [nn]).length) (hmax : x.at_ + (x.old ++ [on]).length ≤ MAXA) :
    ∃ x' : PaV, x'.m = ⟨x.at_, x.old ++ [on], x.new ++ [nn]⟩ ∧ OwnPa (Mn M w ((W.setCell ⟨g, init.length * 3 + 1, none⟩ (.slice p1 n1 c1)).setCell ⟨g, init.length * 3 + 2, none⟩ (.slice p2 n2 c2))) ((W.setCell ⟨g, init.length * 3 + 1, none⟩ (.slice p1 n1 c1)).setCell ⟨g, init.length * 3 + 2, none⟩ (.slice p2 n2 c2)) (.slice (some ⟨g, 0, none⟩) (init ++ [x]).length cap) (init ++ [x']) ∧
      Its M (Mn M w ((W.setCell ⟨g, init.length * 3 + 1, none⟩ (.slice p1 n1 c1)).setCell ⟨g, init.length * 3 + 2, none⟩ (.slice p2 n2 c2))) w ((W.setCell ⟨g, init.length * 3 + 1, none⟩ (.slice p1 n1 c1)).setCell ⟨g, init.length * 3 + 2, none⟩ (.slice p2 n2 c2)) := by
  subst h1
  subst h2
  have hxm : x ∈ init ++ [x] := by simp
  have mg : M g := h.mv g rfl
  have hgl := hlt g mg
  have hgx : ¬ x.blk g := fun e => (h.mx x hxm g e).2 rfl
  obtain ⟨W', hW'⟩ : ∃ W', W' = (W.setCell ⟨g, init.length * 3 + 1, none⟩ (.slice p1 (x.old ++ [on]).length c1)).setCell ⟨g, init.length * 3 + 2, none⟩ (.slice p2 (x.new ++ [nn]).length c2) := ⟨_, rfl⟩
  rw [← hW']
  have hz : W'.heap.size = W.heap.size := by rw [hW']; simp [World.setCell]
  have other : ∀ k, k ≠ g → W'.heap[k]? = W.heap[k]? := fun k hk => by rw [hW', heap_setCell_other _ _ _ _ hk, heap_setCell_other _ _ _ _ hk]
  have n1 : ∀ k, (Value.slice p1 (x.old ++ [on]).length c1).ownBlock = some k → k ≠ g := fun k hk e => by
    subst e
    rcases hp.b1 k hk with e | e
    · exact hgx (.inl e)
    · omega
  have n2 : ∀ k, (Value.slice p2 (x.new ++ [nn]).length c2).ownBlock = some k → k ≠ g := fun k hk e => by
    subst e
    rcases hp.b2 k hk with e | e
    · exact hgx (.inr e)
    · omega
  have hfl : (init ++ [x]).flatMap PaV.cells = init.flatMap PaV.cells ++ x.cells := by rw [List.flatMap_append]; simp
  have own1 : W.ownsRow 0 94 3 (.slice (some ⟨g, 0, none⟩) (init ++ [x]).length cap) (init ++ [x]).length (init.flatMap PaV.cells ++ x.cells) := by
    rw [← hfl]; exact owns_of_block h.own (fun k hk => by cases hk; exact hp.keep g hgl hgx)
  have own2 := own3_set paLen (c := 2) (u := .slice p2 (x.new ++ [nn]).length c2) (by decide) (own3_set paLen (c := 1) (u := .slice p1 (x.old ++ [on]).length c1) (by decide) own1)
  rw [← hW'] at own2
  have its : Its M (Mn M w W') w W' := by
    refine ⟨?_, ?_, ?_, by rw [hz]; exact hp.size, fun k hk hn => ?_, fun _ hk => .inl hk, fun _ hk => hk.imp id And.left, fun hl k hk => hk.elim (fun h1 => by rw [hz]; exact Nat.lt_of_lt_of_le (hl k h1) hp.size) And.right⟩
    · rw [hW']; exact hp.os
    · rw [hW']; exact hp.tape
    · rw [hW']; exact hp.output
    · rw [other k (fun e => hn (e ▸ mg))]
      exact hp.keep k hk (fun e => hn (h.mx x hxm k e).1)
  refine ⟨⟨x.at_, p1, c1, x.old ++ [on], p2, c2, x.new ++ [nn]⟩, rfl, ?_, its⟩
  refine h.last (fun k hk => .inl hk) (fun k hk hkg hkx => (other k hkg).trans (hp.keep k (hlt k hk) hkx)) own2 (owns_of_block hp.o1 (fun k hk => other k (n1 k hk))) (owns_of_block hp.o2 (fun k hk => other k (n2 k hk))) ?_ (fun k hk => hp.ap k hk) ⟨by simp, ?_, hmax⟩
  · intro k hk
    have key : x.blk k ∨ (w.heap.size ≤ k ∧ k < W'.heap.size) := by
      rcases hk with hk | hk
      · rcases hp.b1 k hk with e | e
        · exact .inl (.inl e)
        · exact .inr ⟨e, by rw [hz]; exact hp.o1.lt k hk⟩
      · rcases hp.b2 k hk with e | e
        · exact .inl (.inr e)
        · exact .inr ⟨e, by rw [hz]; exact hp.o2.lt k hk⟩
    rcases key with e | e
    · exact ⟨.inl (h.mx x hxm k e).1, .inl e⟩
    · exact ⟨.inr e, .inr (fun hm => by have := hlt k hm; omega)⟩
  · have := (h.ok x hxm).2.1
    simp [this]

theorem cl0 (W : World) (u : Value) (t : TypeId) : (W.alloc (.cells #[u] t)).cell? ⟨W.heap.size, 0, none⟩ = some u := cell_of_row _ _ 0 _ _ _ (heap_alloc_new W _)
theorem cl1 (W : World) (u : Value) (t : TypeId) (o : Obj) : ((W.alloc (.cells #[u] t)).alloc o).cell? ⟨W.heap.size, 0, none⟩ = some u := below_cell' ((Below.refl _ _).alloc (Nat.le_refl _) _) (by simp) (cl0 W u t)
theorem cl2 (W : World) (u : Value) (t : TypeId) (o : Obj) : ((W.alloc o).alloc (.cells #[u] t)).cell? ⟨W.heap.size + 1, 0, none⟩ = some u := by have := cl0 (W.alloc o) u t; rwa [World.size_alloc] at this
theorem src_one {W : World} {B : Nat} {b : UInt8} (h : W.cell? ⟨B, 0, none⟩ = some (.int .u8 (b.toNat : Int))) : Src Tryz.prog 1 72 (.slice (some ⟨B, 0, none⟩) 1 1) [b].length (u8s [b]) W :=
  Src.ofSlice _ un_bsB _ 1 1 [.int .u8 (b.toNat : Int)] (by simp) (fun j x hx => by
    cases j with
    | zero => simp at hx; subst hx; exact h
    | succ j => simp at hx) (fun x hx => by simp at hx; subst hx; rfl)

set_option maxHeartbeats 1000000 in
theorem bd_pno (w : World) (g o : Nat) (x : PaV) (b1 b2 b3 at_ : Nat) (on nn : UInt8) (h : AtD w g o x) (hB : BoxD w b1 b2 b3 at_ on nn) (hx : x.at_ + x.old.length ≤ MAXA) (hno : x.at_ + x.old.length ≠ at_) :
    Calls Tryz.prog 48 #[.pointer (some ⟨g, o, none⟩), .pointer (some ⟨b1, 0, none⟩), .pointer (some ⟨b2, 0, none⟩), .pointer (some ⟨b3, 0, none⟩)] w fun e w' => e = .returned (.bool false) ∧ Below w.heap.size w w' := by
  obtain ⟨xa, xp, xc, xo, xq, xd, xn⟩ := x
  dsimp only at hx hno
  obtain ⟨n, hn⟩ : ∃ n, n = xo.length := ⟨_, rfl⟩
  obtain ⟨E, hE⟩ : ∃ E, E = xa + n := ⟨_, rfl⟩
  unfold MAXA at hx
  have y0 : w.cell? ⟨g, o, none⟩ = some (.int .u64 (xa : Int)) := h.c0
  have y1 : w.cell? ⟨g, o + 1, none⟩ = some (.slice xp n xc) := by rw [hn]; exact h.c1
  have y2 := hB.cells.1
  have e1 : IntKind.u64.wrap (n : Int) = (n : Int) := IntWalk.u64_in _ (by omega)
  have e2 : IntKind.u64.wrap ((xa : Int) + (n : Int)) = (E : Int) := (IntWalk.u64_in _ (by omega)).trans (by omega)
  have d1 : ((E : Int) != (at_ : Int)) = true := by simp only [bne_iff_ne]; omega
  clear h hB hn hE hx hno
  go_enter Tryz.func48, Tryz.ntmps48
  go_wp2_with fail
  go_quiet (fail)
  go_wp2_with fail
  go_ret
  exact ⟨rfl, below_drewNP (Below.refl _ _) _⟩
end Go.Proofs.YtjfkgdfmkofbmaaGreatDoor
