/- Two memories in step: the iterator of both. -/
import Derived.Test.YthlnjfnjmjdohaaZBpK
import Derived.Test.YthlnjfnjmjdohaaZItG
import Derived.Test.YthlnjfnjmjdohaaZRnd
namespace Go.Proofs.Ythlnjfnjmjdohaa
set_option linter.unusedSimpArgs false
set_option linter.unusedVariables false
open Go.RowKit

/-- What two memories have from an address on, as it is handed over. -/
structure PtV where
  at_ : Nat
  pa : Option Addr
  ca : Nat
  a : List UInt8
  pb : Option Addr
  cb : Nat
  b : List UInt8
  p : Int
  q : Int
abbrev PtV.sa (x : PtV) : Value := .slice x.pa x.a.length x.ca
abbrev PtV.sb (x : PtV) : Value := .slice x.pb x.b.length x.cb
abbrev PtV.v (x : PtV) : Value := .agg #[.int .u64 (x.at_ : Int), x.sa, x.sb, .int .i64 x.p, .int .i64 x.q]
def PtV.m (x : PtV) : Pt := ⟨x.at_, x.a, x.b, x.p, x.q⟩

def P7 (l : List Pz) : Prop := ∀ p ∈ l, p.prot ≤ 7
theorem cut_7 {n : Nat} {l : List Pz} (hs : Srt n l) (h : P7 l) (f t : Nat) : 0 ≤ (cutZ l f t).2 ∧ (cutZ l f t).2 ≤ 7 := by
  unfold cutZ
  cases e : l.find? (fun p => decide (p.at_ ≤ f) && decide (f < p.end_)) with
  | none => exact ⟨Int.le_refl _, by show (0:Int) ≤ 7; omega⟩
  | some p =>
    have hp := List.mem_of_find?_eq_some e
    have := (hs.at_le p hp).2.2.2
    exact ⟨by show 0 ≤ p.prot; omega, h p hp⟩

/-- What the iterator reads, all of it in the blocks M0 of the world W0. -/
structure BothS (M0 : Nat → Prop) (W0 : World) (ba bb bt : Nat) (va vb vt : Value) (A B : List PzV) (bs : List Nat) : Prop where
  ra : W0.heap[ba]? = some (.cells #[va] 22 (0, 0))
  rb : W0.heap[bb]? = some (.cells #[vb] 22 (0, 0))
  rt : W0.heap[bt]? = some (.cells #[vt] 73 (0, 0))
  pza : PzsAt W0 va A
  pzb : PzsAt W0 vb B
  own : W0.ownsRow 0 42 1 vt bs.length (u64c bs)
  ma : M0 ba
  mb : M0 bb
  mt : M0 bt
  mva : ∀ k, inBlk va k → M0 k
  mvb : ∀ k, inBlk vb k → M0 k
  mvt : ∀ k, vt.ownBlock = some k → M0 k
  mxa : ∀ x ∈ A, ∀ k, inBlk x.sl k → M0 k
  mxb : ∀ x ∈ B, ∀ k, inBlk x.sl k → M0 k
  lt : ∀ k, M0 k → k < W0.heap.size
/-- A world in which these blocks are as they were. -/
structure SameM (M0 : Nat → Prop) (W0 W : World) : Prop where
  size : W0.heap.size ≤ W.heap.size
  blk : ∀ k, M0 k → W.heap[k]? = W0.heap[k]?

theorem PzsAt.of_block {W W' : World} {v : Value} {L : List PzV} (h : PzsAt W v L) (h1 : ∀ k, inBlk v k → W'.heap[k]? = W.heap[k]?) (h2 : ∀ x ∈ L, ∀ k, inBlk x.sl k → W'.heap[k]? = W.heap[k]?) : PzsAt W' v L :=
  ⟨h.rows.of_block (fun x _ => ⟨_, rfl⟩) (fun j hj _ => h1 j hj), fun x hx => (h.bytes x hx).of_block (fun k hk _ => h2 x hx k hk), h.ats⟩
theorem BothS.same {M0 : Nat → Prop} {W0 W : World} {ba bb bt : Nat} {va vb vt : Value} {A B : List PzV} {bs : List Nat} (h : BothS M0 W0 ba bb bt va vb vt A B bs) (hm : SameM M0 W0 W) : BothS M0 W ba bb bt va vb vt A B bs :=
  ⟨(hm.blk _ h.ma).trans h.ra, (hm.blk _ h.mb).trans h.rb, (hm.blk _ h.mt).trans h.rt, h.pza.of_block (fun k hk => hm.blk k (h.mva k hk)) (fun x hx k hk => hm.blk k (h.mxa x hx k hk)), h.pzb.of_block (fun k hk => hm.blk k (h.mvb k hk)) (fun x hx k hk => hm.blk k (h.mxb x hx k hk)),
    owns_of_block h.own (fun k hk => hm.blk k (h.mvt k hk)), h.ma, h.mb, h.mt, h.mva, h.mvb, h.mvt, h.mxa, h.mxb, fun k hk => Nat.lt_of_lt_of_le (h.lt k hk) hm.size⟩
theorem SameM.refl (M0 : Nat → Prop) (W : World) : SameM M0 W W := ⟨Nat.le_refl _, fun _ _ => rfl⟩
theorem SameM.trans {M0 : Nat → Prop} {A B C : World} (h : SameM M0 A B) (g : SameM M0 B C) : SameM M0 A C := ⟨Nat.le_trans h.size g.size, fun k hk => (g.blk k hk).trans (h.blk k hk)⟩
theorem SameM.below {M0 : Nat → Prop} {W W' : World} (hl : ∀ k, M0 k → k < W.heap.size) (hb : Below W.heap.size W W') : SameM M0 W W' := ⟨hb.size, fun k hk => hb.block k (hl k hk)⟩

/-- No block is handed over. -/
abbrev R0 : PtV → Nat → Prop := fun _ _ => False
theorem its_rel (x : PtV) (M : Nat → Prop) (W : World) : Its (rel R0 x M) M W W := ⟨rfl, rfl, rfl, Nat.le_refl _, fun _ _ _ => rfl, fun _ h => h.1, fun _ h => .inl ⟨h, fun h => h⟩, fun h k hk => h k ⟨hk, fun h => h⟩⟩

/-- The row's cells. -/
theorem row64_at {W : World} {vt : Value} {bs : List Nat} (h : W.ownsRow 0 42 1 vt bs.length (u64c bs)) {i : Nat} {f : Nat} (hi : bs[i]? = some f) : ∃ g cap, vt = .slice (some ⟨g, 0, none⟩) bs.length cap ∧ W.cell? ⟨g, i, none⟩ = some (.int .u64 (f : Int)) ∧ g < W.heap.size := by
  have hlt := (List.getElem?_eq_some_iff.1 hi).1
  have h0 := h
  rcases h.2 with ⟨-, h1⟩ | ⟨g, cap, cur, rfl, -, hg, -⟩
  · omega
  · refine ⟨g, cap, rfl, ?_, (Array.getElem?_eq_some_iff.1 hg).1⟩
    rw [h0.cellAt i (by omega)]
    simp [u64c, hi]
theorem drop_two {l : List Nat} {i f t : Nat} (h1 : l[i]? = some f) (h2 : l[i + 1]? = some t) : l.drop i = f :: t :: l.drop (i + 1 + 1) ∧ l.drop (i + 1) = t :: l.drop (i + 1 + 1) := by
  obtain ⟨a, rfl⟩ := List.getElem?_eq_some_iff.1 h1
  obtain ⟨b, rfl⟩ := List.getElem?_eq_some_iff.1 h2
  exact ⟨by rw [List.drop_eq_getElem_cons a, List.drop_eq_getElem_cons b], List.drop_eq_getElem_cons b⟩
def partsD (a b : List Pz) (bs : List Nat) (i : Nat) : List Pt := ((pairsZ (bs.drop i)).map (ptOf a b)).filter (fun x => decide (0 < x.p + x.q))
theorem parts_zero (a b : List Pz) (bs : List Nat) : partsD a b bs 0 = partsZ a b bs := rfl
theorem parts_cons {a b : List Pz} {bs : List Nat} {i f t : Nat} (h1 : bs[i]? = some f) (h2 : bs[i + 1]? = some t) : partsD a b bs i = if 0 < (ptOf a b (f, t)).p + (ptOf a b (f, t)).q then ptOf a b (f, t) :: partsD a b bs (i + 1) else partsD a b bs (i + 1) := by
  obtain ⟨e1, e2⟩ := drop_two h1 h2
  unfold partsD
  rw [e1, e2, pairsZ, List.map_cons, List.filter_cons]
  by_cases h : 0 < (ptOf a b (f, t)).p + (ptOf a b (f, t)).q
  · rw [if_pos h, if_pos (decide_eq_true h)]
  · rw [if_neg h, if_neg (by simpa using h)]
theorem parts_end {a b : List Pz} {bs : List Nat} {i : Nat} (h : bs.length ≤ i + 1) : partsD a b bs i = [] := by
  unfold partsD
  have : pairsZ (bs.drop i) = [] := by
    have hl : (bs.drop i).length ≤ 1 := by rw [List.length_drop]; omega
    match hd : bs.drop i, hl with
    | [], _ => rfl
    | [x], _ => rfl
    | x :: y :: l, hl => simp at hl
  rw [this]; rfl
theorem pairs_mem {bs : List Nat} {i f t : Nat} (h1 : bs[i]? = some f) (h2 : bs[i + 1]? = some t) : (f, t) ∈ pairsZ bs := by
  induction bs generalizing i with
  | nil => simp at h1
  | cons x l ih =>
    cases i with
    | zero =>
      cases l with
      | nil => simp at h2
      | cons y l =>
        simp at h1 h2
        subst h1; subst h2
        rw [pairsZ]; exact List.mem_cons_self
    | succ i =>
      cases l with
      | nil => simp at h1
      | cons y l =>
        rw [pairsZ]
        exact List.mem_cons_of_mem _ (ih (by simpa using h1) (by simpa using h2))
theorem Bnds.max {bs : List Nat} {a b : List Pz} (h : Bnds bs a b) {na nb : Nat} (ha : Srt na a) (hb : Srt nb b) : ∀ e ∈ bs, e ≤ MAXA := by
  have one : ∀ {n : Nat} {l : List Pz}, Srt n l → ∀ e ∈ endsZ l, e ≤ MAXA := fun hs e he => by
    obtain ⟨p, hp, he⟩ := List.mem_flatMap.1 he
    have h1 := (hs.at_le p hp).2.1
    have h2 : p.at_ ≤ p.end_ := Nat.le_add_right _ _
    simp at he
    rcases he with rfl | rfl <;> omega
  intro e he
  rcases (h.mem e).1 he with he | he
  · exact one ha e he
  · exact one hb e he

/-- The world of a round: the part's block X. -/
structure PartIn (wo W : World) (X at_ : Nat) (u1 u2 : Value) (p q : Int) : Prop where
  bel : Below wo.heap.size wo W
  hX : X = wo.heap.size
  row : W.heap[X]? = some (.cells #[.int .u64 (at_ : Int), u1, u2, .int .i64 p, .int .i64 q] 59 (0, 0))
theorem PartIn.below {wo W W' : World} {X at_ : Nat} {u1 u2 : Value} {p q : Int} (h : PartIn wo W X at_ u1 u2 p q) (hb : Below W.heap.size W W') : PartIn wo W' X at_ u1 u2 p q :=
  ⟨h.bel.trans (hb.mono h.bel.size), h.hX, (hb.block _ (Array.getElem?_eq_some_iff.1 h.row).1).trans h.row⟩
theorem PartIn.cells {wo W : World} {X at_ : Nat} {u1 u2 : Value} {p q : Int} (h : PartIn wo W X at_ u1 u2 p q) :
    (W.cell? ⟨X, 0, none⟩ = some (.int .u64 (at_ : Int)) ∧ W.cell? ⟨X, 1, none⟩ = some u1 ∧ W.cell? ⟨X, 2, none⟩ = some u2 ∧ W.cell? ⟨X, 3, none⟩ = some (.int .i64 p) ∧ W.cell? ⟨X, 4, none⟩ = some (.int .i64 q)) ∧
    (W.frozen? ⟨X, 1, none⟩ = false ∧ W.frozen? ⟨X, 2, none⟩ = false ∧ W.frozen? ⟨X, 3, none⟩ = false ∧ W.frozen? ⟨X, 4, none⟩ = false) :=
  ⟨⟨cell_of_row _ _ 0 _ _ _ h.row, cell_of_row _ _ 1 _ _ _ h.row, cell_of_row _ _ 2 _ _ _ h.row, cell_of_row _ _ 3 _ _ _ h.row, cell_of_row _ _ 4 _ _ _ h.row⟩, frozen_of_row W X 1 _ _ h.row, frozen_of_row W X 2 _ _ h.row, frozen_of_row W X 3 _ _ h.row, frozen_of_row W X 4 _ _ h.row⟩
theorem PartIn.set1 {wo W : World} {X at_ : Nat} {u1 u2 v1 : Value} {p q r : Int} (h : PartIn wo W X at_ u1 u2 p q) : PartIn wo ((W.setCell ⟨X, 1, none⟩ v1).setCell ⟨X, 3, none⟩ (.int .i64 r)) X at_ v1 u2 r q := by
  have e1 := heap_setCell_same W X 1 _ _ v1 h.row
  have e2 := heap_setCell_same (W.setCell ⟨X, 1, none⟩ v1) X 3 _ _ (.int .i64 r) e1
  refine ⟨⟨h.bel.os, h.bel.tape, h.bel.output, by simp [World.setCell]; exact h.bel.size, fun k hk => ?_⟩, h.hX, e2⟩
  have : k ≠ X := by rw [h.hX]; omega
  rw [heap_setCell_other _ _ _ _ this, heap_setCell_other _ _ _ _ this]
  exact h.bel.block k hk
theorem PartIn.set2 {wo W : World} {X at_ : Nat} {u1 u2 v2 : Value} {p q r : Int} (h : PartIn wo W X at_ u1 u2 p q) : PartIn wo ((W.setCell ⟨X, 2, none⟩ v2).setCell ⟨X, 4, none⟩ (.int .i64 r)) X at_ u1 v2 p r := by
  have e1 := heap_setCell_same W X 2 _ _ v2 h.row
  have e2 := heap_setCell_same (W.setCell ⟨X, 2, none⟩ v2) X 4 _ _ (.int .i64 r) e1
  refine ⟨⟨h.bel.os, h.bel.tape, h.bel.output, by simp [World.setCell]; exact h.bel.size, fun k hk => ?_⟩, h.hX, e2⟩
  have : k ≠ X := by rw [h.hX]; omega
  rw [heap_setCell_other _ _ _ _ this, heap_setCell_other _ _ _ _ this]
  exact h.bel.block k hk
theorem bs_set {M0 : Nat → Prop} {W : World} {v : Value} {l : List UInt8} {X i j : Nat} {u z : Value} (h : BS W v l) (hk : ∀ k, inBlk v k → M0 k) (hX : ∀ k, M0 k → k ≠ X) : BS ((W.setCell ⟨X, i, none⟩ u).setCell ⟨X, j, none⟩ z) v l :=
  h.of_block fun k hb _ => by rw [heap_setCell_other _ _ _ _ (show k ≠ (⟨X, j, none⟩ : Addr).block from hX k (hk k hb)), heap_setCell_other _ _ _ _ (show k ≠ (⟨X, i, none⟩ : Addr).block from hX k (hk k hb))]
end Go.Proofs.Ythlnjfnjmjdohaa
