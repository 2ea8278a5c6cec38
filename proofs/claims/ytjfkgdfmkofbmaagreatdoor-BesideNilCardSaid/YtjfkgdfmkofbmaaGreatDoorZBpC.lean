/- Pieces of the call's own: how they lie apart; the last one grows. -/
import Derived.Test.YtjfkgdfmkofbmaaGreatDoorZBpB
import Derived.Test.YtjfkgdfmkofbmaaGreatDoorZIt
import Derived.Deep.RegionHeld
import Derived.Deep.RegionLaw
import Derived.Deep.DeepCutAuto
import Derived.Deep.RegionHeld3
namespace Go.Proofs.YtjfkgdfmkofbmaaGreatDoor
set_option linter.unusedSimpArgs false
set_option linter.unusedVariables false
open Go.RowKit

/-- What was M, and what is new. -/
def Mn (M : Nat → Prop) (W W' : World) (k : Nat) : Prop := M k ∨ (W.heap.size ≤ k ∧ k < W'.heap.size)
theorem its_mn {M M1 : Nat → Prop} {W W' : World} (h : Its M M1 W W') : Its M (Mn M W W') W W' :=
  ⟨h.os, h.tape, h.output, h.size, h.keep, fun _ hk => .inl hk, fun _ hk => hk.imp id And.left, fun hl k hk => hk.elim (fun h1 => Nat.lt_of_lt_of_le (hl k h1) h.size) And.right⟩
theorem its_below (M : Nat → Prop) {W W' : World} (h : Below W.heap.size W W') : Its M (Mn M W W') W W' := its_mn (Its.of_below M h)
theorem its_tr {M : Nat → Prop} {A B C : World} (h : Its M (Mn M A B) A B) (g : Its (Mn M A B) (Mn (Mn M A B) B C) B C) : Its M (Mn M A C) A C := its_mn (h.trans g)
theorem mn_tr {M : Nat → Prop} {A B C : World} (h1 : A.heap.size ≤ B.heap.size) (h2 : B.heap.size ≤ C.heap.size) {k : Nat} (h : Mn (Mn M A B) B C k) : Mn M A C k := by
  rcases h with (h | h) | h
  · exact .inl h
  · exact .inr ⟨h.1, Nat.lt_of_lt_of_le h.2 h2⟩
  · exact .inr ⟨Nat.le_trans h1 h.1, h.2⟩
theorem its_grew {M : Nat → Prop} {W W' : World} {v v' : Value} (h : Grew W W' v v') (hv : ∀ k, v.ownBlock = some k → M k) : Its M (Mn M W W') W W' := its_mn (Its.of_grown h.by_ hv)

theorem owns_of_block {W W' : World} {base : Nat} {e : TypeId} {size n : Nat} {v : Value} {xs : List Value} (h : W.ownsRow base e size v n xs) (hb : ∀ k, v.ownBlock = some k → W'.heap[k]? = W.heap[k]?) : W'.ownsRow base e size v n xs := by
  obtain ⟨h1, h2 | ⟨g, cap, cur, rfl, h3, h4, h5⟩⟩ := h
  · exact ⟨h1, .inl h2⟩
  · exact ⟨h1, .inr ⟨g, cap, cur, rfl, h3, (hb g rfl).trans h4, h5⟩⟩

abbrev PzV.sl (x : PzV) : Value := .slice x.p x.bytes.length x.cap
def okZ (x : PzV) : Prop := x.bytes ≠ [] ∧ x.at_ + x.bytes.length ≤ MAXA
/-- Pieces of the call's own, in the blocks M; K: what holds of each. -/
structure OwnPzG (K : PzV → Prop) (M : Nat → Prop) (W : World) (v : Value) (L : List PzV) : Prop where
  own : W.ownsRow 0 74 3 v L.length (L.flatMap PzV.cells)
  each : ∀ x ∈ L, OB W 0 5 x.sl x.bytes
  mv : ∀ k, v.ownBlock = some k → M k
  mx : ∀ x ∈ L, ∀ k, x.sl.ownBlock = some k → M k ∧ v.ownBlock ≠ some k
  pair : L.Pairwise (fun x y => ∀ k, x.sl.ownBlock = some k → y.sl.ownBlock ≠ some k)
  ok : ∀ x ∈ L, K x
abbrev OwnPz := OwnPzG okZ
theorem OwnPzG.nil {K : PzV → Prop} (M : Nat → Prop) (W : World) : OwnPzG K M W (.slice none 0 0) [] :=
  ⟨World.ownsRow_nil _ _ _ _, by simp, fun k hk => (by cases hk), by simp, List.Pairwise.nil, by simp⟩
theorem OwnPzG.widen {K : PzV → Prop} {M M' : Nat → Prop} {W : World} {v : Value} {L : List PzV} (h : OwnPzG K M W v L) (hm : ∀ k, M k → M' k) : OwnPzG K M' W v L :=
  ⟨h.own, h.each, fun k hk => hm k (h.mv k hk), fun x hx k hk => ⟨hm k (h.mx x hx k hk).1, (h.mx x hx k hk).2⟩, h.pair, h.ok⟩
theorem OwnPzG.of_block {K : PzV → Prop} {M : Nat → Prop} {W W' : World} {v : Value} {L : List PzV} (h : OwnPzG K M W v L) (hb : ∀ k, M k → W'.heap[k]? = W.heap[k]?) : OwnPzG K M W' v L :=
  ⟨owns_of_block h.own (fun k hk => hb k (h.mv k hk)), fun x hx => owns_of_block (h.each x hx) (fun k hk => hb k (h.mx x hx k hk).1), h.mv, h.mx, h.pair, h.ok⟩
theorem OwnPzG.lt {K : PzV → Prop} {M : Nat → Prop} {W : World} {v : Value} {L : List PzV} (h : OwnPzG K M W v L) : (∀ k, v.ownBlock = some k → k < W.heap.size) ∧ ∀ x ∈ L, ∀ k, x.sl.ownBlock = some k → k < W.heap.size :=
  ⟨fun k hk => (World.ownsRow.lt h.own k hk).2, fun x hx k hk => (World.ownsRow.lt (h.each x hx) k hk).2⟩
/-- What others do elsewhere. -/
theorem OwnPzG.other {K : PzV → Prop} {M N N' : Nat → Prop} {W W' : World} {v : Value} {L : List PzV} (h : OwnPzG K M W v L) (hi : Its N N' W W') (hn : ∀ k, M k → ¬ N k) : OwnPzG K M W' v L :=
  ⟨owns_of_block h.own (fun k hk => hi.keep k (h.lt.1 k hk) (hn k (h.mv k hk))), fun x hx => owns_of_block (h.each x hx) (fun k hk => hi.keep k (h.lt.2 x hx k hk) (hn k (h.mx x hx k hk).1)), h.mv, h.mx, h.pair, h.ok⟩
theorem OwnPzG.below {K : PzV → Prop} {M : Nat → Prop} {W W' : World} {v : Value} {L : List PzV} (h : OwnPzG K M W v L) (hb : Below W.heap.size W W') : OwnPzG K M W' v L :=
  ⟨owns_of_block h.own (fun k hk => hb.block k (h.lt.1 k hk)), fun x hx => owns_of_block (h.each x hx) (fun k hk => hb.block k (h.lt.2 x hx k hk)), h.mv, h.mx, h.pair, h.ok⟩
theorem OwnPzG.rows {K : PzV → Prop} {M : Nat → Prop} {W : World} {v : Value} {L : List PzV} (h : OwnPzG K M W v L) : ∃ g cap, (v = .slice (some ⟨g, 0, none⟩) L.length cap ∨ (L = [] ∧ v = .slice none 0 0)) ∧ (∀ i x, L[i]? = some x → v = .slice (some ⟨g, 0, none⟩) L.length cap ∧ g < W.heap.size ∧ ∃ cur, W.heap[g]? = some (.cells cur 74 (0, 0)) ∧ cur[i * 3]? = some (.int .u64 (x.at_ : Int)) ∧ cur[i * 3 + 1]? = some (.int .i64 x.prot) ∧ cur[i * 3 + 2]? = some x.sl) := by
  obtain ⟨hlen, ⟨rfl, h0⟩ | ⟨g, cap, cur, rfl, -, hb, h1, h2, h3, h4⟩⟩ := h.own
  · have hl := List.length_eq_zero_iff.1 h0
    subst hl
    exact ⟨0, 0, .inr ⟨rfl, rfl⟩, fun i x hx => by simp at hx⟩
  · refine ⟨g, cap, .inl rfl, fun i x hx => ⟨rfl, (Array.getElem?_eq_some_iff.1 hb).1, cur, hb, ?_⟩⟩
    have key : ∀ (l : List PzV) (i : Nat), l[i]? = some x → ∀ c u, x.cells[c]? = some u → (l.flatMap PzV.cells)[i * 3 + c]? = some u := by
      intro l
      induction l with
      | nil => intro i h; simp at h
      | cons a t ih =>
        intro i hi c u hu
        rw [List.flatMap_cons]
        cases i with
        | zero =>
          cases hi
          rw [Nat.zero_mul, Nat.zero_add, List.getElem?_append_left (List.getElem?_eq_some_iff.1 hu).1]
          exact hu
        | succ j =>
          rw [List.getElem?_append_right (by rw [pzLen, Nat.add_mul]; omega), pzLen, show (j + 1) * 3 + c - 3 = j * 3 + c by omega]
          exact ih j (by simpa using hi) c u hu
    have cell : ∀ c u, x.cells[c]? = some u → cur[i * 3 + c]? = some u := fun c u hu => by
      have hu' := key L i hx c u hu
      rw [← h4, List.getElem?_take] at hu'
      split at hu'
      · simpa using hu'
      · cases hu'
    exact ⟨by simpa using cell 0 _ rfl, cell 1 _ rfl, cell 2 _ rfl⟩

theorem OwnPz.nil (M : Nat → Prop) (W : World) : OwnPz M W (.slice none 0 0) [] := OwnPzG.nil M W

/-- The boxes that the closure has: where, which protection, which bytes. -/
structure Boxes (W : World) (b1 b2 b3 : Nat) (at_ : Nat) (prot : Int) (src : Value) : Prop where
  r1 : W.heap[b1]? = some (.cells #[.int .u64 (at_ : Int)] 36 (0, 0))
  r2 : W.heap[b2]? = some (.cells #[.int .i64 prot] 3 (0, 0))
  r3 : W.heap[b3]? = some (.cells #[src] 72 (0, 0))
theorem Boxes.below {W W' : World} {b1 b2 b3 at_ : Nat} {prot : Int} {src : Value} (h : Boxes W b1 b2 b3 at_ prot src) (hb : Below W.heap.size W W') : Boxes W' b1 b2 b3 at_ prot src :=
  ⟨(hb.block _ (Array.getElem?_eq_some_iff.1 h.r1).1).trans h.r1, (hb.block _ (Array.getElem?_eq_some_iff.1 h.r2).1).trans h.r2, (hb.block _ (Array.getElem?_eq_some_iff.1 h.r3).1).trans h.r3⟩
theorem Boxes.cells {W : World} {b1 b2 b3 at_ : Nat} {prot : Int} {src : Value} (h : Boxes W b1 b2 b3 at_ prot src) : W.cell? ⟨b1, 0, none⟩ = some (.int .u64 (at_ : Int)) ∧ W.cell? ⟨b2, 0, none⟩ = some (.int .i64 prot) ∧ W.cell? ⟨b3, 0, none⟩ = some src :=
  ⟨cell_of_row W b1 0 _ _ _ h.r1, cell_of_row W b2 0 _ _ _ h.r2, cell_of_row W b3 0 _ _ _ h.r3⟩

theorem below_drewP (W : World) : Below W.heap.size W W.drew := ⟨rfl, rfl, rfl, Nat.le_refl _, fun _ _ => rfl⟩
/-- A piece's three cells. -/
structure At3 (W : World) (g o : Nat) (x : PzV) : Prop where
  c0 : W.cell? ⟨g, o, none⟩ = some (.int .u64 (x.at_ : Int))
  c1 : W.cell? ⟨g, o + 1, none⟩ = some (.int .i64 x.prot)
  c2 : W.cell? ⟨g, o + 2, none⟩ = some x.sl
theorem At3.below {W W' : World} {g o : Nat} {x : PzV} (h : At3 W g o x) (hb : Below W.heap.size W W') : At3 W' g o x := by
  have hl : g < W.heap.size := World.block_lt_of_cell? W _ h.c0
  exact ⟨below_cell' hb hl h.c0, below_cell' hb hl h.c1, below_cell' hb hl h.c2⟩

set_option maxHeartbeats 1000000 in
theorem bd_on_no (w : World) (g o : Nat) (x : PzV) (b1 b2 b3 at_ : Nat) (prot : Int) (src : Value) (h : At3 w g o x) (hB : Boxes w b1 b2 b3 at_ prot src) (hx : x.at_ + x.bytes.length ≤ MAXA) (hno : ¬ (x.at_ + x.bytes.length = at_ ∧ x.prot = prot)) :
    Calls Tryz.prog 39 #[.pointer (some ⟨g, o, none⟩), .pointer (some ⟨b1, 0, none⟩), .pointer (some ⟨b2, 0, none⟩), .pointer (some ⟨b3, 0, none⟩)] w fun e w' => e = .returned (.bool false) ∧ Below w.heap.size w w' := by
  have H := hid (And.intro h hB)
  obtain ⟨xa, xp, xs, xc, xb⟩ := x
  dsimp only at hx hno
  obtain ⟨n, hn⟩ : ∃ n, n = xb.length := ⟨_, rfl⟩
  unfold MAXA at hx
  have hE := hid (fun W => bd_end W xa xp xs xb.length xc (by omega))
  have hi : At3 w.drew g o ⟨xa, xp, xs, xc, xb⟩ ∧ Boxes w.drew b1 b2 b3 at_ prot src ∧ Below w.heap.size w w.drew := ⟨h.below (below_drewP w), hB.below (below_drewP w), below_drewP w⟩
  obtain ⟨E, hEe⟩ : ∃ E, E = xa + xb.length := ⟨_, rfl⟩
  rw [← hEe] at hno hE
  have e1 : ∀ b : Bool, ((E : Int) != (at_ : Int)) = b ∨ ((E : Int) != (at_ : Int)) = !b := fun b => by cases b <;> cases ((E : Int) != (at_ : Int)) <;> simp
  clear h hB hn hEe hx
  go_enter Tryz.func39, Tryz.ntmps39
  go_wp2_with fail
  by_cases c : E = at_
  · have d1 : ((E : Int) != (at_ : Int)) = false := by rw [c]; simp
    have d2 : (xp != prot) = true := by simp only [bne_iff_ne]; exact fun e => hno ⟨c, e⟩
    have Hc := hid (And.intro c hno)
    clear c hno e1
    go_region_held (fun W => (W.cell? ⟨g, o, none⟩ = some (.int .u64 (xa : Int)) ∧ W.cell? ⟨g, o + 1, none⟩ = some (.int .i64 xp) ∧ W.cell? ⟨g, o + 2, none⟩ = some (.slice xs xb.length xc)) ∧ W.cell? ⟨b1, 0, none⟩ = some (.int .u64 (at_ : Int)) ∧ W.cell? ⟨b2, 0, none⟩ = some (.int .i64 prot)) (exact ⟨⟨hi.1.c0, hi.1.c1, hi.1.c2⟩, hi.2.1.cells.1, hi.2.1.cells.2.1⟩)
      (first
        | (go_at_call 36; (with_reducible refine (hE.out _).mono ?_); rintro e w2 ⟨rfl, hb2⟩; have hi := And.intro (hi.1.below hb2) (And.intro (hi.2.1.below hb2) (hi.2.2.trans (hb2.mono hi.2.2.size))); clear hb2)
        | fail "no call")
    all_goals
      have Hi := hid hi.2.2
      clear hi
      go_wp2_with fail
      go_ret
      exact ⟨rfl, Hi.out⟩
  · have d1 : ((E : Int) != (at_ : Int)) = true := by simp only [bne_iff_ne]; omega
    have Hc := hid (And.intro c hno)
    clear c hno e1
    obtain ⟨⟨y0, y1, y2⟩, hib, -⟩ := hi
    obtain ⟨y3, y4, -⟩ := hib.cells
    dsimp only at y0 y1 y2
    have hi := H.out
    clear hib
    first
      | go_region_with (go_at_call 36; (with_reducible refine (hE.out _).mono ?_); rintro e w2 ⟨rfl, hb2⟩; have hi := And.intro (hi.1.below (Below.trans (below_drewP w) hb2)) (And.intro (hi.2.below (Below.trans (below_drewP w) hb2)) (Below.trans (below_drewP w) hb2)); have y3' := hi.2.1.cells.1; have y4' := hi.2.1.cells.2.1; have y1' := hi.1.c1; dsimp only at y1'; clear hb2)
      | fail
    all_goals
      have Hi := hid hi.2.2
      clear hi
      go_wp2_with fail
      go_ret
      exact ⟨rfl, Hi.out⟩
end Go.Proofs.YtjfkgdfmkofbmaaGreatDoor

namespace Go.Proofs.YtjfkgdfmkofbmaaGreatDoor
set_option linter.unusedSimpArgs false
set_option linter.unusedVariables false
open Go.RowKit

theorem own_form {W : World} {B : Nat} {e : TypeId} {size n : Nat} {v : Value} {xs : List Value} (h : W.ownsRow B e size v n xs) : ∃ p m c, v = .slice p m c := by
  obtain ⟨_, ⟨rfl, _⟩ | ⟨g, cap, cur, rfl, _⟩⟩ := h
  · exact ⟨_, _, _, rfl⟩
  · exact ⟨_, _, _, rfl⟩
theorem sl_form {W : World} {x : PzV} {v : Value} {l : List UInt8} (h : OB W 0 5 v l) : ∃ p c, v = .slice p l.length c := by
  obtain ⟨_, ⟨rfl, h0⟩ | ⟨g, cap, cur, rfl, _⟩⟩ := h
  · exact ⟨none, 0, by rw [h0]⟩
  · exact ⟨_, _, rfl⟩
theorem flat3 (l : List PzV) : (l.flatMap PzV.cells).length = l.length * 3 := by
  induction l with
  | nil => rfl
  | cons a t ih => rw [List.flatMap_cons, List.length_append, ih, pzLen, List.length_cons]; omega
/-- The last piece has other bytes. -/
theorem owns_last {W : World} {g cap : Nat} {init : List PzV} {x x' : PzV} (h : W.ownsRow 0 74 3 (.slice (some ⟨g, 0, none⟩) (init ++ [x]).length cap) (init ++ [x]).length ((init ++ [x]).flatMap PzV.cells)) (h1 : x'.at_ = x.at_) (h2 : x'.prot = x.prot) :
    (W.setCell ⟨g, init.length * 3 + 2, none⟩ x'.sl).ownsRow 0 74 3 (.slice (some ⟨g, 0, none⟩) (init ++ [x]).length cap) (init ++ [x']).length ((init ++ [x']).flatMap PzV.cells) := by
  obtain ⟨k1, ⟨k2, _⟩ | ⟨g', cap', cur, k2, -, k4, k5, k6, k7, k8⟩⟩ := h
  · cases k2
  · cases k2
    refine ⟨by rw [flat3], .inr ⟨g, cap, cur.setIfInBounds (init.length * 3 + 2) x'.sl, by rw [List.length_append, List.length_append]; rfl, Nat.zero_le _, heap_setCell_same W g _ cur _ _ k4, by rw [List.length_append] at k5 ⊢; exact k5, k6, by simpa using k7, ?_⟩⟩
    have e1 : (init ++ [x]).flatMap PzV.cells = init.flatMap PzV.cells ++ x.cells := by rw [List.flatMap_append]; simp
    have e2 : (init ++ [x']).flatMap PzV.cells = init.flatMap PzV.cells ++ x'.cells := by rw [List.flatMap_append]; simp
    have hl : (init ++ [x']).length = (init ++ [x]).length := by rw [List.length_append, List.length_append]; rfl
    rw [hl, e2, Array.toList_setIfInBounds, List.take_set, k8, e1, List.set_append_right _ _ (by rw [flat3]; omega), flat3, show init.length * 3 + 2 - init.length * 3 = 2 by omega]
    unfold PzV.cells
    rw [h1, h2]
    rfl

/-- What the closure leaves, where the piece goes on. -/
def OnYes (M : Nat → Prop) (w : World) (v : Value) (init : List PzV) (x : PzV) (bs : List UInt8) (e : Ending) (w' : World) : Prop :=
  e = .returned (.bool true) ∧ ∃ x' : PzV, x'.at_ = x.at_ ∧ x'.prot = x.prot ∧ x'.bytes = x.bytes ++ bs ∧ OwnPz (Mn M w w') w' v (init ++ [x']) ∧ Its M (Mn M w w') w w'

theorem on_yes {M : Nat → Prop} {w w2 W3 : World} {g cap : Nat} {init : List PzV} {x : PzV} {bs : List UInt8} (hlt : ∀ k, M k → k < w.heap.size) (h : OwnPz M w (.slice (some ⟨g, 0, none⟩) (init ++ [x]).length cap) (init ++ [x]))
    (hb : Below w.heap.size w w2) {p : Option Addr} {c : Nat} (hg : Grew w2 W3 x.sl (.slice p (x.bytes ++ bs).length c)) (ho : OB W3 0 5 (.slice p (x.bytes ++ bs).length c) (x.bytes ++ bs)) (hmax : x.at_ + (x.bytes ++ bs).length ≤ MAXA) :
    ∃ x' : PzV, x'.at_ = x.at_ ∧ x'.prot = x.prot ∧ x'.bytes = x.bytes ++ bs ∧ OwnPz (Mn M w (W3.setCell ⟨g, init.length * 3 + 2, none⟩ (.slice p (x.bytes ++ bs).length c))) (W3.setCell ⟨g, init.length * 3 + 2, none⟩ (.slice p (x.bytes ++ bs).length c)) (.slice (some ⟨g, 0, none⟩) (init ++ [x]).length cap) (init ++ [x']) ∧
      Its M (Mn M w (W3.setCell ⟨g, init.length * 3 + 2, none⟩ (.slice p (x.bytes ++ bs).length c))) w (W3.setCell ⟨g, init.length * 3 + 2, none⟩ (.slice p (x.bytes ++ bs).length c)) := by
  have hxm : x ∈ init ++ [x] := by simp
  have mg : M g := h.mv g rfl
  have hgx : x.sl.ownBlock ≠ some g := fun e => (h.mx x hxm g e).2 rfl
  have hgl := hlt g mg
  have hz : (W3.setCell ⟨g, init.length * 3 + 2, none⟩ (.slice p (x.bytes ++ bs).length c)).heap.size = W3.heap.size := by simp [World.setCell]
  obtain ⟨W4, hW4⟩ : ∃ W4, W4 = W3.setCell ⟨g, init.length * 3 + 2, none⟩ (.slice p (x.bytes ++ bs).length c) := ⟨_, rfl⟩
  have hs23 := hg.by_.size
  have hs12 := hb.size
  -- what each block is
  have keep4 : ∀ k, k < w.heap.size → k ≠ g → x.sl.ownBlock ≠ some k → W4.heap[k]? = w.heap[k]? := fun k hk h1 h2 => by
    rw [hW4, heap_setCell_other _ _ _ _ h1]
    exact (hg.block (Nat.lt_of_lt_of_le hk hs12) h2).trans (hb.block k hk)
  have own3 : W3.ownsRow 0 74 3 (.slice (some ⟨g, 0, none⟩) (init ++ [x]).length cap) (init ++ [x]).length ((init ++ [x]).flatMap PzV.cells) :=
    owns_of_block h.own (fun k hk => by cases hk; exact (hg.block (Nat.lt_of_lt_of_le hgl hs12) hgx).trans (hb.block g hgl))
  have hvg : (Value.slice p (x.bytes ++ bs).length c).ownBlock ≠ some g := by
    rcases hg.lies with h1 | ⟨k, h1, h2⟩
    · rw [h1]; exact hgx
    · rw [h1]; intro e; have := Option.some.inj e; omega
  have hnew : ∀ k, (Value.slice p (x.bytes ++ bs).length c).ownBlock = some k → x.sl.ownBlock = some k ∨ (w.heap.size ≤ k ∧ k < W4.heap.size) := fun k hk => by
    rcases hg.lies with h1 | ⟨j, h1, h2⟩
    · exact .inl (h1 ▸ hk)
    · refine .inr ?_
      rw [h1] at hk
      cases hk
      exact ⟨Nat.le_trans hs12 h2, by rw [hW4, hz]; exact ho.lt _ h1⟩
  refine ⟨⟨x.at_, x.prot, p, c, x.bytes ++ bs⟩, rfl, rfl, rfl, ?_, ?_⟩
  · rw [← hW4]
    refine ⟨?_, ?_, fun k hk => .inl (h.mv k hk), ?_, ?_, ?_⟩
    · rw [hW4]; exact owns_last (x' := ⟨x.at_, x.prot, p, c, x.bytes ++ bs⟩) own3 rfl rfl
    · intro y hy
      rcases List.mem_append.1 hy with hy | hy
      · have hyL : y ∈ init ++ [x] := List.mem_append_left _ hy
        refine owns_of_block (h.each y hyL) (fun k hk => keep4 k (hlt k (h.mx y hyL k hk).1) (fun e => (h.mx y hyL k hk).2 (by rw [e]; rfl)) ?_)
        have := (List.pairwise_append.1 h.pair).2.2 y hy x (by simp) k hk
        exact this
      · rw [List.mem_singleton] at hy
        subst hy
        refine owns_of_block ho (fun k hk => ?_)
        rw [hW4]
        exact heap_setCell_other _ _ _ _ (fun e => hvg (hk.trans (congrArg some e)))
    · intro y hy k hk
      rcases List.mem_append.1 hy with hy | hy
      · have := h.mx y (List.mem_append_left _ hy) k hk
        exact ⟨.inl this.1, this.2⟩
      · rw [List.mem_singleton] at hy
        subst hy
        refine ⟨?_, fun e => hvg (hk.trans e.symm)⟩
        rcases hnew k hk with h1 | h1
        · exact .inl (h.mx x hxm k h1).1
        · exact .inr h1
    · refine List.pairwise_append.2 ⟨(List.pairwise_append.1 h.pair).1, List.pairwise_singleton _ _, fun y hy z hz k hk e => ?_⟩
      rw [List.mem_singleton] at hz
      subst hz
      have hyL : y ∈ init ++ [x] := List.mem_append_left _ hy
      rcases hnew k e with h1 | h1
      · exact (List.pairwise_append.1 h.pair).2.2 y hy x (by simp) k hk h1
      · have := hlt k (h.mx y hyL k hk).1; omega
    · intro y hy
      rcases List.mem_append.1 hy with hy | hy
      · exact h.ok y (List.mem_append_left _ hy)
      · rw [List.mem_singleton] at hy
        subst hy
        exact ⟨by simp [(h.ok x hxm).1], hmax⟩
  · have i1 : Its M (Mn M w w2) w w2 := its_below M hb
    have i2 : Its (Mn M w w2) (Mn (Mn M w w2) w2 W3) w2 W3 := its_grew hg (fun k hk => .inl (h.mx x hxm k hk).1)
    have i3 : Its (Mn (Mn M w w2) w2 W3) (Mn (Mn M w w2) w2 W3) W3 (W3.setCell ⟨g, init.length * 3 + 2, none⟩ (.slice p (x.bytes ++ bs).length c)) := Its.set _ (.inl (.inl mg))
    exact its_mn ((i1.trans i2).trans i3)

set_option maxHeartbeats 2000000 in
theorem bd_on_yes (w : World) (M : Nat → Prop) (hlt : ∀ k, M k → k < w.heap.size) (g cap : Nat) (init : List PzV) (x : PzV) (h : OwnPz M w (.slice (some ⟨g, 0, none⟩) (init ++ [x]).length cap) (init ++ [x]))
    (b1 b2 b3 at_ : Nat) (prot : Int) (sp : Option Addr) (sc : Nat) (bs : List UInt8) (hB : Boxes w b1 b2 b3 at_ prot (.slice sp bs.length sc)) (hbs : BS w (.slice sp bs.length sc) bs) (hat : x.at_ + x.bytes.length = at_) (hpr : x.prot = prot) (hmax : at_ + bs.length ≤ MAXA) :
    Calls Tryz.prog 39 #[.pointer (some ⟨g, init.length * 3, none⟩), .pointer (some ⟨b1, 0, none⟩), .pointer (some ⟨b2, 0, none⟩), .pointer (some ⟨b3, 0, none⟩)] w (OnYes M w (.slice (some ⟨g, 0, none⟩) (init ++ [x]).length cap) init x bs) := by
  obtain ⟨i, R⟩ := u8rowB
  have hxm : x ∈ init ++ [x] := by simp
  have mg : M g := h.mv g rfl
  have hgx : x.sl.ownBlock ≠ some g := fun e => (h.mx x hxm g e).2 rfl
  have ha3 : At3 w g (init.length * 3) x := by
    obtain ⟨g', cap', -, hr⟩ := h.rows
    obtain ⟨e, -, cur, hc, c0, c1, c2⟩ := hr init.length x (by simp)
    cases e
    exact ⟨by simp only [World.cell?, hc]; exact c0, by simp only [World.cell?, hc]; exact c1, by simp only [World.cell?, hc]; exact c2⟩
  have hrow : ∃ cur, w.heap[g]? = some (.cells cur 74 (0, 0)) := by
    obtain ⟨g', cap', -, hr⟩ := h.rows
    obtain ⟨e, -, cur, hc, -⟩ := hr init.length x (by simp)
    cases e
    exact ⟨cur, hc⟩
  have hmx : x.at_ + (x.bytes ++ bs).length ≤ MAXA := by rw [List.length_append]; omega
  have hE := hid (fun W => bd_end W x.at_ x.prot x.p x.bytes.length x.cap (by unfold MAXA at hmax; omega))
  have HK := hid (And.intro hlt (And.intro h (And.intro hmx (And.intro R (And.intro hgx hrow)))))
  have HX := hid (And.intro ha3 (And.intro hB (And.intro hbs (h.each x hxm))))
  obtain ⟨E, hEe⟩ : ∃ E, E = x.at_ + x.bytes.length := ⟨_, rfl⟩
  rw [← hEe] at hE
  have d1 : ((E : Int) != (at_ : Int)) = false := by rw [hEe, hat]; simp
  have d2 : (x.prot != prot) = false := by rw [hpr]; simp
  have hi : At3 w.drew g (init.length * 3) x ∧ Boxes w.drew b1 b2 b3 at_ prot (.slice sp bs.length sc) ∧ Below w.heap.size w w.drew := ⟨ha3.below (below_drewP w), hB.below (below_drewP w), below_drewP w⟩
  clear hlt h hmx R hgx hrow ha3 hB hbs hat hpr hmax mg hxm hEe
  go_enter Tryz.func39, Tryz.ntmps39
  go_wp2_with fail
  go_region_held (fun W => (W.cell? ⟨g, init.length * 3, none⟩ = some (.int .u64 (x.at_ : Int)) ∧ W.cell? ⟨g, init.length * 3 + 1, none⟩ = some (.int .i64 x.prot) ∧ W.cell? ⟨g, init.length * 3 + 2, none⟩ = some (.slice x.p x.bytes.length x.cap)) ∧ W.cell? ⟨b1, 0, none⟩ = some (.int .u64 (at_ : Int)) ∧ W.cell? ⟨b2, 0, none⟩ = some (.int .i64 prot)) (exact ⟨⟨hi.1.c0, hi.1.c1, hi.1.c2⟩, hi.2.1.cells.1, hi.2.1.cells.2.1⟩)
    (first
      | (go_at_call 36; (with_reducible refine (hE.out _).mono ?_); rintro e w2 ⟨rfl, hb2⟩; have hi := And.intro (hi.1.below hb2) (And.intro (hi.2.1.below hb2) (hi.2.2.trans (hb2.mono hi.2.2.size))); clear hb2)
      | fail "no call")
  all_goals
    obtain ⟨⟨-, -, y2⟩, hib, hbw⟩ := hi
    obtain ⟨-, -, y5⟩ := hib.cells
    have H2 := hid hbw
    clear hib hbw
    go_upto_region 3 with fail
    go_region_law (refine step_bytes HK.out.2.2.2.1 _ rfl _ _ _ rfl 0 x.sl x.bytes rfl (OB.below HX.out.2.2.2 (H2.out.trans ((below_drewP _).mono H2.out.size))) _ bs rfl (Src.ofBS un_bsB (HX.out.2.2.1.below (H2.out.trans ((below_drewP _).mono H2.out.size)))) (by have := HK.out.2.2.1; rw [List.length_append] at this; unfold MAXA at this; omega) (Nat.zero_le _) ?_; intro v2 W3 ho3 hg3; have hg3 := Grew.under (below_drewP w2) hg3; have y2' := hg3.cell y2 HK.out.2.2.2.2.1; have hrow := HK.out.2.2.2.2.2; obtain ⟨cur, hcur⟩ := hrow; have hgl := (Array.getElem?_eq_some_iff.1 hcur).1; have yf := frozen_of_row W3 g (init.length * 3 + 2) _ _ ((hg3.block (Nat.lt_of_lt_of_le hgl H2.out.size) HK.out.2.2.2.2.1).trans ((H2.out.block _ hgl).trans hcur)); obtain ⟨p3, c3, hv3⟩ := sl_form (x := x) ho3; subst hv3; have H3 := hid (And.intro ho3 hg3); clear ho3 hg3 hcur hgl)
    all_goals
      go_wp2_with fail
      go_ret
      have hf := on_yes HK.out.1 HK.out.2.1 H2.out H3.out.2 H3.out.1 HK.out.2.2.1
      rw [show (x.bytes ++ bs).length = x.bytes.length + bs.length from List.length_append] at hf
      exact ⟨rfl, hf⟩
end Go.Proofs.YtjfkgdfmkofbmaaGreatDoor

namespace Go.Proofs.YtjfkgdfmkofbmaaGreatDoor
set_option linter.unusedSimpArgs false
set_option linter.unusedVariables false
open Go.RowKit

def PutEnd (M : Nat → Prop) (w : World) (L : List PzV) (at_ : Nat) (prot : Int) (bs : List UInt8) (e : Ending) (w' : World) : Prop :=
  ∃ v' L', e = .returned v' ∧ OwnPz (Mn M w w') w' v' L' ∧ L'.map PzV.m = putP (L.map PzV.m) at_ prot bs ∧ Its M (Mn M w w') w w'
/-- A piece that lies apart. -/
structure NewPz (M : Nat → Prop) (w : World) (v : Value) (L : List PzV) (y : PzV) : Prop where
  own : OB w 0 5 y.sl y.bytes
  m : ∀ k, y.sl.ownBlock = some k → M k ∧ v.ownBlock ≠ some k ∧ ∀ x ∈ L, x.sl.ownBlock ≠ some k
  ok : y.bytes ≠ [] ∧ y.at_ + y.bytes.length ≤ MAXA

/-- Behind an append of a piece. -/
theorem grown_append {M : Nat → Prop} {w w1 w' : World} {v v' : Value} {L : List PzV} {y : PzV} (hlt : ∀ k, M k → k < w.heap.size) (h : OwnPz M w v L) (hy : NewPz M w v L y) (hb : Below w.heap.size w w1) (hg : Grew w1 w' v v')
    (ho : w'.ownsRow 0 74 3 v' (L.length + 1) (L.flatMap PzV.cells ++ y.cells)) (hno : putP (L.map PzV.m) y.at_ y.prot y.bytes = L.map PzV.m ++ [y.m]) : PutEnd M w L y.at_ y.prot y.bytes (.returned v') w' := by
  have hs12 := hb.size
  have keep : ∀ k, M k → v.ownBlock ≠ some k → w'.heap[k]? = w.heap[k]? := fun k hk hne => (hg.block (Nat.lt_of_lt_of_le (hlt k hk) hs12) hne).trans (hb.block k (hlt k hk))
  have hnew : ∀ k, v'.ownBlock = some k → v.ownBlock = some k ∨ (w.heap.size ≤ k ∧ k < w'.heap.size) := fun k hk => by
    rcases hg.lies with h1 | ⟨j, h1, h2⟩
    · exact .inl (h1 ▸ hk)
    · refine .inr ?_
      have hl := (World.ownsRow.lt ho k hk).2
      rw [h1] at hk
      cases hk
      exact ⟨Nat.le_trans hs12 h2, hl⟩
  refine ⟨v', L ++ [y], rfl, ⟨?_, ?_, ?_, ?_, ?_, ?_⟩, ?_, ?_⟩
  · have e1 : (L ++ [y]).flatMap PzV.cells = L.flatMap PzV.cells ++ y.cells := by rw [List.flatMap_append]; simp
    rw [e1, List.length_append]
    exact ho
  · intro x hx
    rcases List.mem_append.1 hx with hx | hx
    · exact owns_of_block (h.each x hx) (fun k hk => keep k (h.mx x hx k hk).1 (h.mx x hx k hk).2)
    · rw [List.mem_singleton] at hx
      subst hx
      exact owns_of_block hy.own (fun k hk => keep k (hy.m k hk).1 (hy.m k hk).2.1)
  · intro k hk
    rcases hnew k hk with h1 | h1
    · exact .inl (h.mv k h1)
    · exact .inr h1
  · intro x hx k hk
    have key : M k ∧ v.ownBlock ≠ some k := by
      rcases List.mem_append.1 hx with hx | hx
      · exact h.mx x hx k hk
      · rw [List.mem_singleton] at hx
        subst hx
        exact ⟨(hy.m k hk).1, (hy.m k hk).2.1⟩
    refine ⟨.inl key.1, fun e => ?_⟩
    rcases hnew k e with h1 | h1
    · exact key.2 h1
    · have := hlt k key.1; omega
  · refine List.pairwise_append.2 ⟨h.pair, List.pairwise_singleton _ _, fun x hx z hz k hk e => ?_⟩
    rw [List.mem_singleton] at hz
    subst hz
    exact (hy.m k e).2.2 x hx hk
  · intro x hx
    rcases List.mem_append.1 hx with hx | hx
    · exact h.ok x hx
    · rw [List.mem_singleton] at hx
      subst hx
      exact hy.ok
  · rw [hno, List.map_append]; rfl
  · exact its_mn ((its_below M hb).trans (its_grew hg (fun k hk => .inl (h.mv k hk))))

theorem last_casesV (L : List PzV) : L = [] ∨ ∃ l p, L = l ++ [p] := by
  rcases List.eq_nil_or_concat L with h | ⟨l, p, h⟩
  · exact .inl h
  · exact .inr ⟨l, p, by rw [h]; simp⟩
theorem mn_below {M : Nat → Prop} {w w1 w2 : World} (hs : w.heap.size ≤ w1.heap.size) {k : Nat} (h : Mn M w1 w2 k) : Mn M w w2 k := by
  rcases h with h | h
  · exact .inl h
  · exact .inr ⟨Nat.le_trans hs h.1, h.2⟩
/-- A step from a world where more is there already. -/
theorem its_from {M M1 : Nat → Prop} {w w1 w2 : World} (hb : Below w.heap.size w w1) (h : Its M M1 w1 w2) : Its M (Mn M w w2) w w2 := its_mn ((Its.of_below M hb).trans h)

set_option maxHeartbeats 2000000 in
theorem bd_grown_nil (w : World) (M : Nat → Prop) (hlt : ∀ k, M k → k < w.heap.size) (v : Value) (h : OwnPz M w v []) (y : PzV) (hy : NewPz M w v [] y) (f : Value) :
    Calls Tryz.prog 37 #[v, .agg #[.int .u64 (y.at_ : Int), .int .i64 y.prot, .slice y.p y.bytes.length y.cap], f] w (PutEnd M w [] y.at_ y.prot y.bytes) := by
  obtain ⟨ip, hip, hpz, hps, hpb⟩ := info_parts infoP1
  obtain ⟨p, c, rfl⟩ : ∃ p c, v = .slice p 0 c := by obtain ⟨p, c, e⟩ := ownsRow_form h.own; exact ⟨p, c, e⟩
  obtain ⟨u2, hu2⟩ : ∃ u, u = Value.slice y.p y.bytes.length y.cap := ⟨_, rfl⟩
  have ho2 : ∀ u ∈ [Value.int .u64 (y.at_ : Int), .int .i64 y.prot, u2], u.oneCell' = true := fun u hu => by
    simp only [List.mem_cons, List.not_mem_nil, or_false] at hu
    rcases hu with rfl | rfl | rfl
    · rfl
    · rfl
    · rw [hu2]; rfl
  have hcs : y.cells = [.int .u64 (y.at_ : Int), .int .i64 y.prot, u2] := by rw [hu2]; rfl
  rw [← hu2]
  have hal : Below w.heap.size w (w.alloc (.cells #[.int .u64 (y.at_ : Int), .int .i64 y.prot, u2] 74)) := (Below.refl _ _).alloc (Nat.le_refl _) _
  have hrw : (w.alloc (.cells #[.int .u64 (y.at_ : Int), .int .i64 y.prot, u2] 74)).heap[w.heap.size]? = some (.cells #[.int .u64 (y.at_ : Int), .int .i64 y.prot, u2] 74 (0, 0)) := heap_alloc_new w _
  have x0 := cell_of_row _ _ 0 _ _ _ hrw
  have x1 := cell_of_row _ _ 1 _ _ _ hrw
  have x2 := cell_of_row _ _ 2 _ _ _ hrw
  have hown : (w.alloc (.cells #[.int .u64 (y.at_ : Int), .int .i64 y.prot, u2] 74)).ownsRow 0 74 3 (.slice p 0 c) 0 [] := owns_of_block h.own (fun k hk => hal.block k (h.lt.1 k hk))
  have HI := hid (And.intro hip (And.intro hpz (And.intro hps hpb)))
  have HK := hid (And.intro hlt (And.intro h (And.intro hy (And.intro hal (And.intro hown (And.intro ho2 hcs))))))
  clear hlt h hy hip hpz hps hpb hal hrw hown ho2 hcs hu2
  go_enter Tryz.func37, Tryz.ntmps37
  go_wp2_with (at_builtin; refine wpList_append_grew _ rfl _ _ _ _ rfl 0 74 ip _ 3 40 Tryz.underlying24 HI.out.1 HI.out.2.1 HI.out.2.2.1 HI.out.2.2.2 rfl (.slice p 0 c) 0 [] rfl (ownsRow_below HK.out.2.2.2.2.1 ((Below.refl _ _).alloc (Nat.le_refl _) _)) _ 1 [.int .u64 (y.at_ : Int), .int .i64 y.prot, u2] rfl (Src.laid _ Tryz.underlying24 [.int .u64 (y.at_ : Int), .int .i64 y.prot, u2] 1 rfl HK.out.2.2.2.2.2.1 (0, 0) (by simp)) (by decide) (by decide) (Nat.zero_le _) ?_)
  intro v' w' ho hg
  have hz : w.heap.size ≤ (w.alloc (.cells #[.int .u64 (y.at_ : Int), .int .i64 y.prot, u2] 74)).heap.size := by simp
  have hf := grown_append HK.out.1 HK.out.2.1 HK.out.2.2.1 HK.out.2.2.2.1 (Grew.under ((Below.refl _ _).alloc (Nat.le_refl _) _) hg) (by rw [HK.out.2.2.2.2.2.2]; exact ho) rfl
  have HF := hid hf
  clear ho hg hf hz x0 x1 x2
  go_wp2_with fail
  go_ret
  exact HF.out

theorem snoc_at (init : List PzV) (x : PzV) : (init ++ [x])[init.length]? = some x := by simp
set_option maxHeartbeats 4000000 in
theorem bd_grown (w : World) (M : Nat → Prop) (hlt : ∀ k, M k → k < w.heap.size) (v : Value) (L : List PzV) (h : OwnPz M w v L) (hlen : L.length ≤ 100000) (y : PzV) (hy : NewPz M w v L y)
    (b1 b2 b3 : Nat) (sp : Option Addr) (sc : Nat) (hB : Boxes w b1 b2 b3 y.at_ y.prot (.slice sp y.bytes.length sc)) (hbs : BS w (.slice sp y.bytes.length sc) y.bytes) :
    Calls Tryz.prog 37 #[v, .agg #[.int .u64 (y.at_ : Int), .int .i64 y.prot, .slice y.p y.bytes.length y.cap], .func (.func 39) #[] #[.pointer (some ⟨b1, 0, none⟩), .pointer (some ⟨b2, 0, none⟩), .pointer (some ⟨b3, 0, none⟩)]] w (PutEnd M w L y.at_ y.prot y.bytes) := by
  rcases last_casesV L with rfl | ⟨init, x, rfl⟩
  · exact bd_grown_nil w M hlt v h y hy _
  obtain ⟨ip, hip, hpz, hps, hpb⟩ := info_parts infoP1
  obtain ⟨g, cap, rfl⟩ : ∃ g cap, v = .slice (some ⟨g, 0, none⟩) (init ++ [x]).length cap := by
    obtain ⟨g, cap, -, hr⟩ := h.rows
    exact ⟨g, cap, (hr _ _ (snoc_at init x)).1⟩
  obtain ⟨N, hN⟩ : ∃ N, N = (init ++ [x]).length := ⟨_, rfl⟩
  have hNi : N = init.length + 1 := by rw [hN, List.length_append]; rfl
  obtain ⟨u2, hu2⟩ : ∃ u, u = Value.slice y.p y.bytes.length y.cap := ⟨_, rfl⟩
  have ho2 : ∀ u ∈ [Value.int .u64 (y.at_ : Int), .int .i64 y.prot, u2], u.oneCell' = true := fun u hu => by
    simp only [List.mem_cons, List.not_mem_nil, or_false] at hu
    rcases hu with rfl | rfl | rfl
    · rfl
    · rfl
    · rw [hu2]; rfl
  have hcs : y.cells = [.int .u64 (y.at_ : Int), .int .i64 y.prot, u2] := by rw [hu2]; rfl
  rw [← hu2]
  obtain ⟨w1, hw1⟩ : ∃ w1, w1 = w.alloc (.cells #[.int .u64 (y.at_ : Int), .int .i64 y.prot, u2] 74) := ⟨_, rfl⟩
  have hal : Below w.heap.size w w1 := by rw [hw1]; exact (Below.refl _ _).alloc (Nat.le_refl _) _
  have hrw : w1.heap[w.heap.size]? = some (.cells #[.int .u64 (y.at_ : Int), .int .i64 y.prot, u2] 74 (0, 0)) := by rw [hw1]; exact heap_alloc_new w _
  have h1 : OwnPz M w1 (.slice (some ⟨g, 0, none⟩) (init ++ [x]).length cap) (init ++ [x]) := h.below hal
  have hlt1 : ∀ k, M k → k < w1.heap.size := fun k hk => Nat.lt_of_lt_of_le (hlt k hk) hal.size
  have hxm : x ∈ init ++ [x] := by simp
  have hxok := h.ok x hxm
  have ha3 : At3 w1 g (init.length * 3) x := by
    obtain ⟨g', cap', -, hr⟩ := h1.rows
    obtain ⟨e, -, cur, hc, c0, c1, c2⟩ := hr init.length x (snoc_at init x)
    cases e
    exact ⟨by simp only [World.cell?, hc]; exact c0, by simp only [World.cell?, hc]; exact c1, by simp only [World.cell?, hc]; exact c2⟩
  have hw1' : IntKind.i64.wrap ((N : Int) - 1) = (init.length : Int) := (IntWalk.i64_in _ (by rw [← hN] at hlen; omega)).trans (by omega)
  have hd : decide ((0 : Int) < (N : Int)) = true := decide_eq_true (by omega)
  have hbn : (0 : Int) ≤ (init.length : Int) := by omega
  have hbN : (init.length : Int) < (N : Int) := by omega
  rw [← hN] at h1 h ⊢
  have HI := hid (And.intro hip (And.intro hpz (And.intro hps hpb)))
  have HN := hid (And.intro hN hNi)
  have HL := hid hlen
  have Hw1 := hid hw1.symm
  clear hip hpz hps hpb hN hNi hlen hw1
  by_cases hj : x.at_ + x.bytes.length = y.at_ ∧ x.prot = y.prot
  · have hon := bd_on_yes w1 M hlt1 g cap init x (by rw [← HN.out.1]; exact h1) b1 b2 b3 y.at_ y.prot sp sc y.bytes (hB.below hal) (hbs.below hal) hj.1 hj.2 (by have := hy.ok.2; omega)
    have hput : putP ((init ++ [x]).map PzV.m) y.at_ y.prot y.bytes = init.map PzV.m ++ [⟨x.at_, x.prot, x.bytes ++ y.bytes⟩] := by
      rw [List.map_append, show [x].map PzV.m = [x.m] from rfl, putP_snoc, if_pos (show x.m.end_ = y.at_ ∧ x.m.prot = y.prot from hj)]
      rfl
    have HO := hid (And.intro hon (And.intro hput hal))
    clear hlt h hy hB hbs h1 hlt1 hxm hxok ha3 ho2 hcs hu2 hj hon hput hrw
    go_enter Tryz.func37, Tryz.ntmps37
    go_upto_region 2 with fail
    rw [Hw1.out]
    go_wp2_with fail
    refine HO.out.1.mono ?_
    rintro e w2 ⟨rfl, x', e1, e2, e3, ho, hi⟩
    have hf : PutEnd M w (init ++ [x]) y.at_ y.prot y.bytes (.returned (.slice (some ⟨g, 0, none⟩) N cap)) w2 := by
      refine ⟨_, init ++ [x'], rfl, ?_, ?_, its_from HO.out.2.2 hi⟩
      · rw [HN.out.1]; exact ho.widen (fun k hk => mn_below HO.out.2.2.size hk)
      · rw [HO.out.2.1, List.map_append]
        show _ ++ [x'.m] = _
        unfold PzV.m
        rw [e1, e2, e3]
    have HF := hid hf
    clear ho hi hf
    go_wp2_with fail
    go_ret
    exact HF.out
  · have hon := bd_on_no w1 g (init.length * 3) x b1 b2 b3 y.at_ y.prot (.slice sp y.bytes.length sc) ha3 (hB.below hal) hxok.2 hj
    have hput : putP ((init ++ [x]).map PzV.m) y.at_ y.prot y.bytes = (init ++ [x]).map PzV.m ++ [y.m] := by
      rw [List.map_append, show [x].map PzV.m = [x.m] from rfl, putP_snoc, if_neg (show ¬ (x.m.end_ = y.at_ ∧ x.m.prot = y.prot) from hj)]
      rfl
    have x0 := cell_of_row _ _ 0 _ _ _ hrw
    have x1 := cell_of_row _ _ 1 _ _ _ hrw
    have x2 := cell_of_row _ _ 2 _ _ _ hrw
    have HO := hid (And.intro hon (And.intro hput (And.intro hal (And.intro hlt (And.intro h (And.intro hy (And.intro ho2 (And.intro hcs hrw))))))))
    clear hlt h hy hB hbs h1 hlt1 hxm hxok ha3 ho2 hcs hu2 hj hon hput
    go_enter Tryz.func37, Tryz.ntmps37
    go_upto_region 2 with fail
    rw [Hw1.out]
    go_wp2_with fail
    refine HO.out.1.mono ?_
    rintro e w2 ⟨rfl, hb2⟩
    have hbw : Below w.heap.size w w2 := HO.out.2.2.1.trans (hb2.mono HO.out.2.2.1.size)
    have hr2 := (hb2.block _ (Array.getElem?_eq_some_iff.1 hrw).1).trans hrw
    have z0 := cell_of_row _ _ 0 _ _ _ hr2
    have z1 := cell_of_row _ _ 1 _ _ _ hr2
    have z2 := cell_of_row _ _ 2 _ _ _ hr2
    obtain ⟨F, hF⟩ : ∃ F, F = (init ++ [x]).flatMap PzV.cells := ⟨_, rfl⟩
    have hown : w2.ownsRow 0 74 3 (.slice (some ⟨g, 0, none⟩) N cap) N F := by
      have := (HO.out.2.2.2.2.1.below hbw).own
      rw [← HN.out.1] at this
      rw [hF]; exact this
    have HF0 := hid hF
    clear hF
    have H2 := hid (And.intro hbw hown)
    clear hb2 hbw hr2 hown x0 x1 x2 hrw
    go_wp2_with (at_builtin; refine wpList_append_grew _ rfl _ _ _ _ rfl 0 74 ip _ 3 40 Tryz.underlying24 HI.out.1 HI.out.2.1 HI.out.2.2.1 HI.out.2.2.2 rfl (.slice (some ⟨g, 0, none⟩) N cap) N _ rfl (ownsRow_below H2.out.2 ((Below.refl _ _).alloc (Nat.le_refl _) _)) _ 1 [.int .u64 (y.at_ : Int), .int .i64 y.prot, u2] rfl (Src.laid _ Tryz.underlying24 [.int .u64 (y.at_ : Int), .int .i64 y.prot, u2] 1 rfl HO.out.2.2.2.2.2.2.1 (0, 0) rfl) (Nat.le_trans (show N + 1 ≤ 200000 by have := HL.out; rw [← HN.out.1] at this; omega) (by decide)) (by have := HL.out; rw [← HN.out.1] at this; omega) (Nat.zero_le _) ?_)
    intro v' w' ho hg
    have hf := grown_append HO.out.2.2.2.1 (by have := HO.out.2.2.2.2.1; rwa [HN.out.1] at this) HO.out.2.2.2.2.2.1 H2.out.1 (by rw [← HN.out.1]; exact Grew.under ((Below.refl _ _).alloc (Nat.le_refl _) _) hg) (by rw [HO.out.2.2.2.2.2.2.2.1, ← HN.out.1, ← HF0.out]; exact ho) HO.out.2.1
    have HF := hid hf
    clear ho hg hf z0 z1 z2
    go_wp2_with fail
    go_ret
    exact HF.out
end Go.Proofs.YtjfkgdfmkofbmaaGreatDoor
