/- Two memories in step: the iterator of both. -/
import Derived.Test.YtjfkgdfmkofbmaaGreatDoorZBpT
import Derived.Test.YtjfkgdfmkofbmaaGreatDoorZIt
import Derived.Test.YtjfkgdfmkofbmaaGreatDoorZRnd
namespace Go.Proofs.YtjfkgdfmkofbmaaGreatDoor
set_option linter.unusedSimpArgs false
set_option linter.unusedVariables false
open Go.RowKit

/-- What two memories have from an address on, as it is handed over. -/
structure PtV where
  at_ : Nat
  pa : Option Addr
  ca : Nat
  a : List UInt8
  pb : Option Addr
  cb : Nat
  b : List UInt8
  p : Int
  q : Int
abbrev PtV.sa (x : PtV) : Value := .slice x.pa x.a.length x.ca
abbrev PtV.sb (x : PtV) : Value := .slice x.pb x.b.length x.cb
abbrev PtV.v (x : PtV) : Value := .agg #[.int .u64 (x.at_ : Int), x.sa, x.sb, .int .i64 x.p, .int .i64 x.q]
def PtV.m (x : PtV) : Pt := ⟨x.at_, x.a, x.b, x.p, x.q⟩

def P7 (l : List Pz) : Prop := ∀ p ∈ l, p.prot ≤ 7
theorem cut_7 {n : Nat} {l : List Pz} (hs : Srt n l) (h : P7 l) (f t : Nat) : 0 ≤ (cutZ l f t).2 ∧ (cutZ l f t).2 ≤ 7 := by
  unfold cutZ
  cases e : l.find? (fun p => decide (p.at_ ≤ f) && decide (f < p.end_)) with
  | none => exact ⟨Int.le_refl _, by show (0:Int) ≤ 7; omega⟩
  | some p =>
    have hp := List.mem_of_find?_eq_some e
    have := (hs.at_le p hp).2.2.2
    exact ⟨by show 0 ≤ p.prot; omega, h p hp⟩

/-- What the iterator reads, all of it in the blocks M0 of the world W0. -/
structure BothS (M0 : Nat → Prop) (W0 : World) (ba bb bt : Nat) (va vb vt : Value) (A B : List PzV) (bs : List Nat) : Prop where
  ra : W0.heap[ba]? = some (.cells #[va] 24 (0, 0))
  rb : W0.heap[bb]? = some (.cells #[vb] 24 (0, 0))
  rt : W0.heap[bt]? = some (.cells #[vt] 123 (0, 0))
  pza : PzsAt W0 va A
  pzb : PzsAt W0 vb B
  own : W0.ownsRow 0 36 1 vt bs.length (u64c bs)
  ma : M0 ba
  mb : M0 bb
  mt : M0 bt
  mva : ∀ k, inBlk va k → M0 k
  mvb : ∀ k, inBlk vb k → M0 k
  mvt : ∀ k, vt.ownBlock = some k → M0 k
  mxa : ∀ x ∈ A, ∀ k, inBlk x.sl k → M0 k
  mxb : ∀ x ∈ B, ∀ k, inBlk x.sl k → M0 k
  lt : ∀ k, M0 k → k < W0.heap.size
/-- A world in which these blocks are as they were. -/
structure SameM (M0 : Nat → Prop) (W0 W : World) : Prop where
  size : W0.heap.size ≤ W.heap.size
  blk : ∀ k, M0 k → W.heap[k]? = W0.heap[k]?

theorem PzsAt.of_block {W W' : World} {v : Value} {L : List PzV} (h : PzsAt W v L) (h1 : ∀ k, inBlk v k → W'.heap[k]? = W.heap[k]?) (h2 : ∀ x ∈ L, ∀ k, inBlk x.sl k → W'.heap[k]? = W.heap[k]?) : PzsAt W' v L :=
  ⟨h.rows.of_block (fun x _ => ⟨_, rfl⟩) (fun j hj _ => h1 j hj), fun x hx => (h.bytes x hx).of_block (fun k hk _ => h2 x hx k hk), h.ats⟩
theorem BothS.same {M0 : Nat → Prop} {W0 W : World} {ba bb bt : Nat} {va vb vt : Value} {A B : List PzV} {bs : List Nat} (h : BothS M0 W0 ba bb bt va vb vt A B bs) (hm : SameM M0 W0 W) : BothS M0 W ba bb bt va vb vt A B bs :=
  ⟨(hm.blk _ h.ma).trans h.ra, (hm.blk _ h.mb).trans h.rb, (hm.blk _ h.mt).trans h.rt, h.pza.of_block (fun k hk => hm.blk k (h.mva k hk)) (fun x hx k hk => hm.blk k (h.mxa x hx k hk)), h.pzb.of_block (fun k hk => hm.blk k (h.mvb k hk)) (fun x hx k hk => hm.blk k (h.mxb x hx k hk)),
    owns_of_block h.own (fun k hk => hm.blk k (h.mvt k hk)), h.ma, h.mb, h.mt, h.mva, h.mvb, h.mvt, h.mxa, h.mxb, fun k hk => Nat.lt_of_lt_of_le (h.lt k hk) hm.size⟩
theorem SameM.refl (M0 : Nat → Prop) (W : World) : SameM M0 W W := ⟨Nat.le_refl _, fun _ _ => rfl⟩
theorem SameM.trans {M0 : Nat → Prop} {A B C : World} (h : SameM M0 A B) (g : SameM M0 B C) : SameM M0 A C := ⟨Nat.le_trans h.size g.size, fun k hk => (g.blk k hk).trans (h.blk k hk)⟩
theorem SameM.below {M0 : Nat → Prop} {W W' : World} (hl : ∀ k, M0 k → k < W.heap.size) (hb : Below W.heap.size W W') : SameM M0 W W' := ⟨hb.size, fun k hk => hb.block k (hl k hk)⟩

/-- No block is handed over. -/
abbrev R0 : PtV → Nat → Prop := fun _ _ => False
theorem its_rel (x : PtV) (M : Nat → Prop) (W : World) : Its (rel R0 x M) M W W := ⟨rfl, rfl, rfl, Nat.le_refl _, fun _ _ _ => rfl, fun _ h => h.1, fun _ h => .inl ⟨h, fun h => h⟩, fun h k hk => h k ⟨hk, fun h => h⟩⟩

/-- The row's cells. -/
theorem row64_at {W : World} {vt : Value} {bs : List Nat} (h : W.ownsRow 0 36 1 vt bs.length (u64c bs)) {i : Nat} {f : Nat} (hi : bs[i]? = some f) : ∃ g cap, vt = .slice (some ⟨g, 0, none⟩) bs.length cap ∧ W.cell? ⟨g, i, none⟩ = some (.int .u64 (f : Int)) ∧ g < W.heap.size := by
  have hlt := (List.getElem?_eq_some_iff.1 hi).1
  have h0 := h
  rcases h.2 with ⟨-, h1⟩ | ⟨g, cap, cur, rfl, -, hg, -⟩
  · omega
  · refine ⟨g, cap, rfl, ?_, (Array.getElem?_eq_some_iff.1 hg).1⟩
    rw [h0.cellAt i (by omega)]
    simp [u64c, hi]
theorem drop_two {l : List Nat} {i f t : Nat} (h1 : l[i]? = some f) (h2 : l[i + 1]? = some t) : l.drop i = f :: t :: l.drop (i + 1 + 1) ∧ l.drop (i + 1) = t :: l.drop (i + 1 + 1) := by
  obtain ⟨a, rfl⟩ := List.getElem?_eq_some_iff.1 h1
  obtain ⟨b, rfl⟩ := List.getElem?_eq_some_iff.1 h2
  exact ⟨by rw [List.drop_eq_getElem_cons a, List.drop_eq_getElem_cons b], List.drop_eq_getElem_cons b⟩
def partsD (a b : List Pz) (bs : List Nat) (i : Nat) : List Pt := ((pairsZ (bs.drop i)).map (ptOf a b)).filter (fun x => decide (0 < x.p + x.q))
theorem parts_zero (a b : List Pz) (bs : List Nat) : partsD a b bs 0 = partsZ a b bs := rfl
theorem parts_cons {a b : List Pz} {bs : List Nat} {i f t : Nat} (h1 : bs[i]? = some f) (h2 : bs[i + 1]? = some t) : partsD a b bs i = if 0 < (ptOf a b (f, t)).p + (ptOf a b (f, t)).q then ptOf a b (f, t) :: partsD a b bs (i + 1) else partsD a b bs (i + 1) := by
  obtain ⟨e1, e2⟩ := drop_two h1 h2
  unfold partsD
  rw [e1, e2, pairsZ, List.map_cons, List.filter_cons]
  by_cases h : 0 < (ptOf a b (f, t)).p + (ptOf a b (f, t)).q
  · rw [if_pos h, if_pos (decide_eq_true h)]
  · rw [if_neg h, if_neg (by simpa using h)]
theorem parts_end {a b : List Pz} {bs : List Nat} {i : Nat} (h : bs.length ≤ i + 1) : partsD a b bs i = [] := by
  unfold partsD
  have : pairsZ (bs.drop i) = [] := by
    have hl : (bs.drop i).length ≤ 1 := by rw [List.length_drop]; omega
    match hd : bs.drop i, hl with
    | [], _ => rfl
    | [x], _ => rfl
    | x :: y :: l, hl => simp at hl
  rw [this]; rfl
theorem pairs_mem {bs : List Nat} {i f t : Nat} (h1 : bs[i]? = some f) (h2 : bs[i + 1]? = some t) : (f, t) ∈ pairsZ bs := by
  induction bs generalizing i with
  | nil => simp at h1
  | cons x l ih =>
    cases i with
    | zero =>
      cases l with
      | nil => simp at h2
      | cons y l =>
        simp at h1 h2
        subst h1; subst h2
        rw [pairsZ]; exact List.mem_cons_self
    | succ i =>
      cases l with
      | nil => simp at h1
      | cons y l =>
        rw [pairsZ]
        exact List.mem_cons_of_mem _ (ih (by simpa using h1) (by simpa using h2))
theorem Bnds.max {bs : List Nat} {a b : List Pz} (h : Bnds bs a b) {na nb : Nat} (ha : Srt na a) (hb : Srt nb b) : ∀ e ∈ bs, e ≤ MAXA := by
  have one : ∀ {n : Nat} {l : List Pz}, Srt n l → ∀ e ∈ endsZ l, e ≤ MAXA := fun hs e he => by
    obtain ⟨p, hp, he⟩ := List.mem_flatMap.1 he
    have h1 := (hs.at_le p hp).2.1
    have h2 : p.at_ ≤ p.end_ := Nat.le_add_right _ _
    simp at he
    rcases he with rfl | rfl <;> omega
  intro e he
  rcases (h.mem e).1 he with he | he
  · exact one ha e he
  · exact one hb e he

/-- The world of a round: the part's block X. -/
structure PartIn (wo W : World) (X at_ : Nat) (u1 u2 : Value) (p q : Int) : Prop where
  bel : Below wo.heap.size wo W
  hX : X = wo.heap.size
  row : W.heap[X]? = some (.cells #[.int .u64 (at_ : Int), u1, u2, .int .i64 p, .int .i64 q] 81 (0, 0))
theorem PartIn.below {wo W W' : World} {X at_ : Nat} {u1 u2 : Value} {p q : Int} (h : PartIn wo W X at_ u1 u2 p q) (hb : Below W.heap.size W W') : PartIn wo W' X at_ u1 u2 p q :=
  ⟨h.bel.trans (hb.mono h.bel.size), h.hX, (hb.block _ (Array.getElem?_eq_some_iff.1 h.row).1).trans h.row⟩
theorem PartIn.cells {wo W : World} {X at_ : Nat} {u1 u2 : Value} {p q : Int} (h : PartIn wo W X at_ u1 u2 p q) :
    (W.cell? ⟨X, 0, none⟩ = some (.int .u64 (at_ : Int)) ∧ W.cell? ⟨X, 1, none⟩ = some u1 ∧ W.cell? ⟨X, 2, none⟩ = some u2 ∧ W.cell? ⟨X, 3, none⟩ = some (.int .i64 p) ∧ W.cell? ⟨X, 4, none⟩ = some (.int .i64 q)) ∧
    (W.frozen? ⟨X, 1, none⟩ = false ∧ W.frozen? ⟨X, 2, none⟩ = false ∧ W.frozen? ⟨X, 3, none⟩ = false ∧ W.frozen? ⟨X, 4, none⟩ = false) :=
  ⟨⟨cell_of_row _ _ 0 _ _ _ h.row, cell_of_row _ _ 1 _ _ _ h.row, cell_of_row _ _ 2 _ _ _ h.row, cell_of_row _ _ 3 _ _ _ h.row, cell_of_row _ _ 4 _ _ _ h.row⟩, frozen_of_row W X 1 _ _ h.row, frozen_of_row W X 2 _ _ h.row, frozen_of_row W X 3 _ _ h.row, frozen_of_row W X 4 _ _ h.row⟩
theorem PartIn.set1 {wo W : World} {X at_ : Nat} {u1 u2 v1 : Value} {p q r : Int} (h : PartIn wo W X at_ u1 u2 p q) : PartIn wo ((W.setCell ⟨X, 1, none⟩ v1).setCell ⟨X, 3, none⟩ (.int .i64 r)) X at_ v1 u2 r q := by
  have e1 := heap_setCell_same W X 1 _ _ v1 h.row
  have e2 := heap_setCell_same (W.setCell ⟨X, 1, none⟩ v1) X 3 _ _ (.int .i64 r) e1
  refine ⟨⟨h.bel.os, h.bel.tape, h.bel.output, by simp [World.setCell]; exact h.bel.size, fun k hk => ?_⟩, h.hX, e2⟩
  have : k ≠ X := by rw [h.hX]; omega
  rw [heap_setCell_other _ _ _ _ this, heap_setCell_other _ _ _ _ this]
  exact h.bel.block k hk
theorem PartIn.set2 {wo W : World} {X at_ : Nat} {u1 u2 v2 : Value} {p q r : Int} (h : PartIn wo W X at_ u1 u2 p q) : PartIn wo ((W.setCell ⟨X, 2, none⟩ v2).setCell ⟨X, 4, none⟩ (.int .i64 r)) X at_ u1 v2 p r := by
  have e1 := heap_setCell_same W X 2 _ _ v2 h.row
  have e2 := heap_setCell_same (W.setCell ⟨X, 2, none⟩ v2) X 4 _ _ (.int .i64 r) e1
  refine ⟨⟨h.bel.os, h.bel.tape, h.bel.output, by simp [World.setCell]; exact h.bel.size, fun k hk => ?_⟩, h.hX, e2⟩
  have : k ≠ X := by rw [h.hX]; omega
  rw [heap_setCell_other _ _ _ _ this, heap_setCell_other _ _ _ _ this]
  exact h.bel.block k hk
theorem bs_set {M0 : Nat → Prop} {W : World} {v : Value} {l : List UInt8} {X i j : Nat} {u z : Value} (h : BS W v l) (hk : ∀ k, inBlk v k → M0 k) (hX : ∀ k, M0 k → k ≠ X) : BS ((W.setCell ⟨X, i, none⟩ u).setCell ⟨X, j, none⟩ z) v l :=
  h.of_block fun k hb _ => by rw [heap_setCell_other _ _ _ _ (show k ≠ (⟨X, j, none⟩ : Addr).block from hX k (hk k hb)), heap_setCell_other _ _ _ _ (show k ≠ (⟨X, i, none⟩ : Addr).block from hX k (hk k hb))]
end Go.Proofs.YtjfkgdfmkofbmaaGreatDoor

namespace Go.Proofs.YtjfkgdfmkofbmaaGreatDoor
set_option linter.unusedSimpArgs false
set_option linter.unusedVariables false
open Go.RowKit

/-- What stands when an element comes. -/
def BothT (a b : List Pz) (bs : List Nat) (pre : List PtV) (x : PtV) (M : Nat → Prop) (W : World) : Prop :=
  BS W x.sa x.a ∧ BS W x.sb x.b ∧ (∀ k, inBlk x.sa k → M k) ∧ (∀ k, inBlk x.sb k → M k) ∧ ∃ rest, pre.map PtV.m ++ x.m :: rest = partsZ a b bs

set_option maxRecDepth 100000 in
set_option maxHeartbeats 4000000 in
theorem both_seq (n : Nat) (M0 : Nat → Prop) (W0 : World) (ba bb bt : Nat) (va vb vt : Value) (A B : List PzV) (bs : List Nat) (hS : BothS M0 W0 ba bb bt va vb vt A B bs)
    (hla : A.length ≤ 20000) (hlb : B.length ≤ 20000) (hsa : Srt 0 (A.map PzV.m)) (hsb : Srt 0 (B.map PzV.m)) (h7a : P7 (A.map PzV.m)) (h7b : P7 (B.map PzV.m)) (hB : Bnds bs (A.map PzV.m) (B.map PzV.m)) (hbl : bs.length ≤ 90000) :
    SeqM n Tryz.prog 45 #[.pointer (some ⟨bt, 0, none⟩), .pointer (some ⟨ba, 0, none⟩), .pointer (some ⟨bb, 0, none⟩)] (fun x : PtV => #[x.v]) R0
      (BothT (A.map PzV.m) (B.map PzV.m) bs) (fun xs W => xs.map PtV.m = partsZ (A.map PzV.m) (B.map PzV.m) bs ∧ SameM M0 W0 W) (fun _ W => SameM M0 W0 W) 100000 M0 (SameM M0 W0) := by
  intro l J Jx W hA hJ hJx hY h0
  obtain ⟨p0, n0, c0, hvt⟩ := own_form hS.own
  subst hvt
  refine callsIn_of_wp Tryz.func45 rfl trivial ?_ rfl
  simp only [Tryz.ntmps45, List.size_toArray, List.length_cons, List.length_nil, Nat.reduceAdd, Nat.reduceSub, Array.replicate_succ, Array.replicate_zero, List.push_toArray, List.append_toArray, List.nil_append, List.cons_append]
  have hn0 : bs.length = n0 := by
    rcases hS.own.2 with ⟨e1, e2⟩ | ⟨g, cap, cur, e1, -⟩
    · cases e1; omega
    · cases e1; rfl
  subst hn0
  have HS := hid (And.intro hS (And.intro hla (And.intro hlb (And.intro hsa (And.intro hsb (And.intro h7a (And.intro h7b (And.intro hB hbl))))))))
  have HY := hid hY
  have H0 := hid h0
  have HJ := hid (And.intro hJ hJx)
  have HA := hid hA
  clear hS hla hlb hsa hsb h7a h7b hB hbl hA hJ hJx hY h0
  gi_wp2
  gi_loopw [5] (fun i wr => ∃ (k : Nat) (pre : List PtV), i = .int .i64 (k : Int) ∧ k ≤ bs.length ∧ pre.length ≤ k ∧ J pre M0 wr ∧ SameM M0 W0 wr ∧ pre.map PtV.m ++ partsD (A.map PzV.m) (B.map PzV.m) bs k = partsZ (A.map PzV.m) (B.map PzV.m) bs) (fun i _ => bs.length - (intOf i).toNat)
  case atStart =>
    exact ⟨0, [], rfl, Nat.zero_le _, Nat.le_refl _, H0.out, HA.out, rfl⟩
  case round =>
    obtain ⟨k, pre, rfl, hk, hpl, hJ, hm, hpd⟩ := hrel
    obtain ⟨wo, rfl⟩ : ∃ wo : World, wo = wr := ⟨_, rfl⟩
    have hbl := HS.out.2.2.2.2.2.2.2.2
    by_cases hlt : k + 1 < bs.length
    · obtain ⟨f, hf⟩ : ∃ f, bs[k]? = some f := ⟨_, List.getElem?_eq_getElem (by omega)⟩
      obtain ⟨t, ht⟩ : ∃ t, bs[k + 1]? = some t := ⟨_, List.getElem?_eq_getElem hlt⟩
      have hSr := HS.out.1.same hm
      obtain ⟨g, cap, hv, ci, hgl⟩ := row64_at hSr.own hf
      obtain ⟨g2, cap2, hv2, cj, -⟩ := row64_at hSr.own ht
      cases hv; cases hv2
      have ca : wo.cell? ⟨ba, 0, none⟩ = some va := cell_of_row _ _ 0 _ _ _ hSr.ra
      have cb : wo.cell? ⟨bb, 0, none⟩ = some vb := cell_of_row _ _ 0 _ _ _ hSr.rb
      have ct : wo.cell? ⟨bt, 0, none⟩ = some (.slice (some ⟨g, 0, none⟩) bs.length c0) := cell_of_row _ _ 0 _ _ _ hSr.rt
      have hwk : IntKind.i64.wrap ((k : Int) + 1) = ((k + 1 : Nat) : Int) := (IntWalk.i64_in _ (by omega)).trans (by omega)
      have hlz : decide (((k + 1 : Nat) : Int) < (bs.length : Int)) = true := by rw [decide_eq_true_eq]; omega
      have hlz2 : decide (k + 1 < bs.length) = true := by rw [decide_eq_true_eq]; omega
      have i1 : (0 : Int) ≤ (k : Int) := by omega
      have i2 : (k : Int) < (bs.length : Int) := by omega
      have i3 : (0 : Int) ≤ ((k + 1 : Nat) : Int) := by omega
      have i4 : ((k + 1 : Nat) : Int) < (bs.length : Int) := by omega
      have hmf := HS.out.2.2.2.2.2.2.2.1.max HS.out.2.2.2.1 HS.out.2.2.2.2.1 f (List.mem_of_getElem? hf)
      have hmt := HS.out.2.2.2.2.2.2.2.1.max HS.out.2.2.2.1 HS.out.2.2.2.2.1 t (List.mem_of_getElem? ht)
      have HR := hid (And.intro hJ (And.intro hm (And.intro hpl (And.intro hpd (And.intro hf (And.intro ht (And.intro hSr (And.intro hmf (And.intro hmt hgl)))))))))
      have hpx := pairs_mem hf ht
      obtain ⟨hft, hnoa, hnob⟩ := HS.out.2.2.2.2.2.2.2.1.noIn hpx
      dsimp only at hft hnoa hnob
      have ht63 : t < 2 ^ 63 := by unfold MAXA at hmt; omega
      obtain ⟨la, hla⟩ : ∃ l, l = (cutZ (A.map PzV.m) f t).1 := ⟨_, rfl⟩
      obtain ⟨pa, hpa⟩ : ∃ q, q = (cutZ (A.map PzV.m) f t).2 := ⟨_, rfl⟩
      obtain ⟨lb, hlb⟩ : ∃ l, l = (cutZ (B.map PzV.m) f t).1 := ⟨_, rfl⟩
      obtain ⟨pb, hpb⟩ : ∃ q, q = (cutZ (B.map PzV.m) f t).2 := ⟨_, rfl⟩
      have hCa : ∀ W, Below wo.heap.size wo W → Calls Tryz.prog 46 #[va, .int .u64 (f : Int), .int .u64 (t : Int)] W fun e w' => ∃ p c, e = .returned (.tuple #[.slice p la.length c, .int .i64 pa]) ∧ BS w' (.slice p la.length c) la ∧ Below W.heap.size W w' ∧ ∀ k, inBlk (.slice p la.length c) k → M0 k := fun W hb => by
        rw [hla, hpa]; exact bd_cut M0 W va A hSr.mxa (hSr.pza.below hb) HS.out.2.2.2.1 (by have := HS.out.2.1; omega) f t hft hnoa ht63
      have hCb : ∀ W, Below wo.heap.size wo W → Calls Tryz.prog 46 #[vb, .int .u64 (f : Int), .int .u64 (t : Int)] W fun e w' => ∃ p c, e = .returned (.tuple #[.slice p lb.length c, .int .i64 pb]) ∧ BS w' (.slice p lb.length c) lb ∧ Below W.heap.size W w' ∧ ∀ k, inBlk (.slice p lb.length c) k → M0 k := fun W hb => by
        rw [hlb, hpb]; exact bd_cut M0 W vb B hSr.mxb (hSr.pzb.below hb) HS.out.2.2.2.2.1 (by have := HS.out.2.2.1; omega) f t hft hnob ht63
      have HC := hid (And.intro hCa hCb)
      have H7 := hid (And.intro (cut_7 HS.out.2.2.2.1 HS.out.2.2.2.2.2.1 f t) (cut_7 HS.out.2.2.2.2.1 HS.out.2.2.2.2.2.2.1 f t))
      rw [← hpa, ← hpb] at H7
      have HPt := hid (show ptOf (A.map PzV.m) (B.map PzV.m) (f, t) = ⟨f, la, lb, pa, pb⟩ from by unfold ptOf; rw [hla, hpa, hlb, hpb])
      have hMlt : ∀ j, M0 j → j < wo.heap.size := hSr.lt
      have hMg : M0 g := hSr.mvt g rfl
      have hXa : wo.heap.size ≠ ba := fun e => by have := hMlt ba hSr.ma; omega
      have hXb : wo.heap.size ≠ bb := fun e => by have := hMlt bb hSr.mb; omega
      have hXt : wo.heap.size ≠ bt := fun e => by have := hMlt bt hSr.mt; omega
      have hXg : wo.heap.size ≠ g := fun e => by have := hMlt g hMg; omega
      have HM := hid hMlt
      clear hJ hm hpl hpd hf ht hSr hmf hmt hgl hk hbl hpx hft hnoa hnob ht63 hla hpa hlb hpb hCa hCb hMlt hMg
      gi_wp2
      obtain ⟨V, hV⟩ : ∃ V, V = wo.alloc (.cells #[.int .u64 (f : Int), .slice none 0 0, .slice none 0 0, .int .i64 0, .int .i64 0] 81) := ⟨_, rfl⟩
      have hbV : Below wo.heap.size wo V := by rw [hV]; exact (Below.refl _ _).alloc (Nat.le_refl _) _
      have hPV : PartIn wo V wo.heap.size f (.slice none 0 0) (.slice none 0 0) 0 0 := ⟨hbV, rfl, by rw [hV]; exact heap_alloc_new wo _⟩
      have hi := hPV.below (below_drewP V)
      have ca := below_cell' (hbV.trans ((below_drewP V).mono hbV.size)) (World.block_lt_of_cell? wo _ ca) ca
      have cb := below_cell' (hbV.trans ((below_drewP V).mono hbV.size)) (World.block_lt_of_cell? wo _ cb) cb
      have ct := below_cell' (hbV.trans ((below_drewP V).mono hbV.size)) (World.block_lt_of_cell? wo _ ct) ct
      have ci := below_cell' (hbV.trans ((below_drewP V).mono hbV.size)) (World.block_lt_of_cell? wo _ ci) ci
      have cj := below_cell' (hbV.trans ((below_drewP V).mono hbV.size)) (World.block_lt_of_cell? wo _ cj) cj
      rw [← hV]
      obtain ⟨X, hX⟩ : ∃ X, X = wo.heap.size := ⟨_, rfl⟩
      rw [← hX] at hXa hXb hXt hXg hi ⊢
      have HX := hid hX
      clear hV hbV hPV hX
      refine wpIn_wide.2 ?_
      go_region_held (fun W => W.cell? ⟨ba, 0, none⟩ = some va ∧ W.cell? ⟨bb, 0, none⟩ = some vb ∧ W.cell? ⟨bt, 0, none⟩ = some (.slice (some ⟨g, 0, none⟩) bs.length c0) ∧ W.cell? ⟨g, k, none⟩ = some (.int .u64 (f : Int)) ∧ W.cell? ⟨g, k + 1, none⟩ = some (.int .u64 (t : Int))) (first | exact ⟨ca, cb, ct, ci, cj⟩ | go_keep)
        (first
          | (go_at_call 46; (with_reducible refine (HC.out.1 _ hi.bel).mono ?_); rintro e w2 ⟨p1, c1, rfl, hbs1, hb2, hk1⟩; have hi := hi.below hb2; have ca := below_cell' hb2 (World.block_lt_of_cell? _ _ ca) ca; have cb := below_cell' hb2 (World.block_lt_of_cell? _ _ cb) cb; have ct := below_cell' hb2 (World.block_lt_of_cell? _ _ ct) ct; have ci := below_cell' hb2 (World.block_lt_of_cell? _ _ ci) ci; have cj := below_cell' hb2 (World.block_lt_of_cell? _ _ cj) cj; have y1 := hi.cells.1.2.1; have y3 := hi.cells.1.2.2.2.1; have z1 := hi.cells.2.1; have z3 := hi.cells.2.2.2.1; have HB1 := hid (And.intro hbs1 hk1); clear hbs1 hk1 hb2)
          | fail "no call")
      have hi := PartIn.set1 (v1 := .slice p1 la.length c1) (r := pa) hi
      have hMX : ∀ j, M0 j → j ≠ X := fun j hj => by have := HM.out j hj; have := HX.out; omega
      have HB1 := hid (And.intro (bs_set (X := X) (i := 1) (j := 3) (u := .slice p1 la.length c1) (z := .int .i64 pa) HB1.out.1 HB1.out.2 hMX) HB1.out.2)
      obtain ⟨V5, hV5⟩ : ∃ V5, V5 = (w2.setCell ⟨X, 1, none⟩ (.slice p1 la.length c1)).setCell ⟨X, 3, none⟩ (.int .i64 pa) := ⟨_, rfl⟩
      have ca : V5.cell? ⟨ba, 0, none⟩ = some va := by rw [hV5]; simp [*, World.cell?_setCell_far]
      have cb : V5.cell? ⟨bb, 0, none⟩ = some vb := by rw [hV5]; simp [*, World.cell?_setCell_far]
      have ct : V5.cell? ⟨bt, 0, none⟩ = some (.slice (some ⟨g, 0, none⟩) bs.length c0) := by rw [hV5]; simp [*, World.cell?_setCell_far]
      have ci : V5.cell? ⟨g, k, none⟩ = some (.int .u64 (f : Int)) := by rw [hV5]; simp [*, World.cell?_setCell_far]
      have cj : V5.cell? ⟨g, k + 1, none⟩ = some (.int .u64 (t : Int)) := by rw [hV5]; simp [*, World.cell?_setCell_far]
      rw [← hV5] at hi HB1 ⊢
      have hi := hi.below (below_drewP V5)
      have HMX := hid hMX
      clear hV5 hMX y1 y3 z1 z3
      gi_wp2
      refine wpIn_wide.2 ?_
      go_region_held (fun W => W.cell? ⟨ba, 0, none⟩ = some va ∧ W.cell? ⟨bb, 0, none⟩ = some vb ∧ W.cell? ⟨bt, 0, none⟩ = some (.slice (some ⟨g, 0, none⟩) bs.length c0) ∧ W.cell? ⟨g, k, none⟩ = some (.int .u64 (f : Int)) ∧ W.cell? ⟨g, k + 1, none⟩ = some (.int .u64 (t : Int))) (first | exact ⟨ca, cb, ct, ci, cj⟩ | go_keep)
        (first
          | (go_at_call 46; (with_reducible refine (HC.out.2 _ hi.bel).mono ?_); rintro e w6 ⟨p2, c2, rfl, hbs2, hb6, hk2⟩; have HB1 := hid (And.intro (HB1.out.1.below (Below.trans (below_drewP V5) hb6)) HB1.out.2); have hi := hi.below hb6; have ca := below_cell' hb6 (World.block_lt_of_cell? _ _ ca) ca; have cb := below_cell' hb6 (World.block_lt_of_cell? _ _ cb) cb; have ct := below_cell' hb6 (World.block_lt_of_cell? _ _ ct) ct; have ci := below_cell' hb6 (World.block_lt_of_cell? _ _ ci) ci; have cj := below_cell' hb6 (World.block_lt_of_cell? _ _ cj) cj; have y2 := hi.cells.1.2.2.1; have y4 := hi.cells.1.2.2.2.2; have z2 := hi.cells.2.2.1; have z4 := hi.cells.2.2.2.2; have HB2 := hid (And.intro hbs2 hk2); clear hbs2 hk2 hb6)
          | fail "no call")
      have hi := PartIn.set2 (v2 := .slice p2 lb.length c2) (r := pb) hi
      have HB1 := hid (And.intro (bs_set (X := X) (i := 2) (j := 4) (u := .slice p2 lb.length c2) (z := .int .i64 pb) HB1.out.1 HB1.out.2 HMX.out) HB1.out.2)
      have HB2 := hid (And.intro (bs_set (X := X) (i := 2) (j := 4) (u := .slice p2 lb.length c2) (z := .int .i64 pb) HB2.out.1 HB2.out.2 HMX.out) HB2.out.2)
      obtain ⟨V7, hV7⟩ : ∃ V7, V7 = (w6.setCell ⟨X, 2, none⟩ (.slice p2 lb.length c2)).setCell ⟨X, 4, none⟩ (.int .i64 pb) := ⟨_, rfl⟩
      rw [← hV7] at hi HB1 HB2 ⊢
      obtain ⟨⟨x0, x1, x2, x3, x4⟩, -⟩ := hi.cells
      have HP := hid hi
      have hbV := hi.bel
      have hm7 : SameM M0 W0 V7 := HR.out.2.1.trans (SameM.below HM.out hbV)
      have hJ7 := HJ.out.1 _ _ _ _ _ HR.out.1 (Its.of_below M0 hbV)
      have hpq : IntKind.i64.wrap (pa + pb) = pa + pb := IntWalk.i64_in _ (by have := H7.out; omega)
      have H8 := hid (And.intro hm7 hJ7)
      clear hV7 hi y2 y4 z2 z4 ca cb ct ci cj hbV hm7 hJ7
      by_cases hpos : (0 : Int) < pa + pb
      · have hpd : decide ((0 : Int) < pa + pb) = true := decide_eq_true hpos
        have hstep : partsD (A.map PzV.m) (B.map PzV.m) bs k = ⟨f, la, lb, pa, pb⟩ :: partsD (A.map PzV.m) (B.map PzV.m) bs (k + 1) := by
          rw [parts_cons HR.out.2.2.2.2.1 HR.out.2.2.2.2.2.1, HPt.out, if_pos hpos]
        obtain ⟨x, hx⟩ : ∃ x : PtV, x = ⟨f, p1, c1, la, p2, c2, lb, pa, pb⟩ := ⟨_, rfl⟩
        have hxm : x.m = ⟨f, la, lb, pa, pb⟩ := by rw [hx]; rfl
        have hsum : pre.map PtV.m ++ x.m :: partsD (A.map PzV.m) (B.map PzV.m) bs (k + 1) = partsZ (A.map PzV.m) (B.map PzV.m) bs := by
          rw [hxm, ← hstep]; exact HR.out.2.2.2.1
        obtain ⟨fn, tmps, assign, body, hy, hRo⟩ := HY.out pre x M0 V7 H8.out.2 ⟨by rw [hx]; exact HB1.out.1, by rw [hx]; exact HB2.out.1, by rw [hx]; exact HB1.out.2, by rw [hx]; exact HB2.out.2, _, hsum⟩ (by have := HR.out.2.2.1; have := HS.out.2.2.2.2.2.2.2.2; omega)
        have hy' : (Instr.yield l #[.agg #[.int .u64 (f : Int), .slice p1 la.length c1, .slice p2 lb.length c2, .int .i64 pa, .int .i64 pb]]).run Tryz.prog V7 = .ok (.round l fn tmps assign body) V7 := by rw [hx] at hy; exact hy
        have HRo := hid (And.intro hRo (And.intro hsum hx))
        clear hy hRo hsum hx hxm hstep
        gi_wp2
        refine ⟨fun h => (by simp [Fence.wide] at h), ?_⟩
        refine HRo.out.1.mono ?_
        rintro e w3 (⟨rfl, hJ3, hk3⟩ | ⟨rfl, hJx3, hk3⟩)
        · have hJ4 := HJ.out.1 _ _ _ _ _ hJ3 (its_rel x M0 w3)
          have hm3 : SameM M0 W0 w3 := H8.out.1.trans ⟨hk3.size, fun j hj => hk3.keep j (by have := HM.out j hj; have := HP.out.bel.size; omega) ⟨hj, fun h => h⟩⟩
          have HZ := hid (And.intro hJ4 hm3)
          clear hJ3 hk3 hJ4 hm3
          gi_wp2
          exact ⟨⟨k + 1, pre ++ [x], by go_num, by omega, by rw [List.length_append]; have := HR.out.2.2.1; simp; omega, HZ.out.1, HZ.out.2, by rw [List.map_append, List.append_assoc]; exact HRo.out.2.1⟩, by simp [intOf]; omega⟩
        · have hm3 : SameM M0 W0 w3 := H8.out.1.trans ⟨hk3.size, fun j hj => hk3.keep j (by have := HM.out j hj; have := HP.out.bel.size; omega) ⟨hj, fun h => h⟩⟩
          have HZ := hid (And.intro hJx3 hm3)
          clear hJx3 hk3 hm3
          gi_wp2
          refine bodyPost_ret (results_none rfl _ _ _) rfl ?_
          exact ⟨⟨_, rfl⟩, .inr ⟨_, _, HZ.out.2, HZ.out.1⟩⟩
      · have hpd : decide ((0 : Int) < pa + pb) = false := decide_eq_false hpos
        have hstep : partsD (A.map PzV.m) (B.map PzV.m) bs k = partsD (A.map PzV.m) (B.map PzV.m) bs (k + 1) := by
          rw [parts_cons HR.out.2.2.2.2.1 HR.out.2.2.2.2.2.1, HPt.out, if_neg hpos]
        have HS2 := hid hstep
        clear hstep
        gi_wp2
        refine ⟨(fun f hf => (by cases hf)), ?_⟩
        gi_wp2
        gi_wp2
        exact ⟨⟨k + 1, pre, by go_num, by omega, by have := HR.out.2.2.1; omega, H8.out.2, H8.out.1, by rw [← HS2.out]; exact HR.out.2.2.2.1⟩, by simp [intOf]; omega⟩
    · have hltz : decide (((k + 1 : Nat) : Int) < (bs.length : Int)) = false := by rw [decide_eq_false_iff_not]; omega
      have hltz2 : decide (k + 1 < bs.length) = false := by rw [decide_eq_false_iff_not]; omega
      have hwk : IntKind.i64.wrap ((k : Int) + 1) = ((k + 1 : Nat) : Int) := (IntWalk.i64_in _ (by omega)).trans (by omega)
      have ct : wo.cell? ⟨bt, 0, none⟩ = some (.slice p0 bs.length c0) := cell_of_row _ _ 0 _ _ _ (HS.out.1.same hm).rt
      rw [parts_end (by omega), List.append_nil] at hpd
      have HF := hid (And.intro hJ (And.intro hpd hm))
      clear hJ hm hpd hpl hk hbl
      gi_wp2
      go_end0
      exact ⟨⟨_, rfl⟩, .inl ⟨pre, M0, HF.out.2, HF.out.1⟩⟩
end Go.Proofs.YtjfkgdfmkofbmaaGreatDoor
