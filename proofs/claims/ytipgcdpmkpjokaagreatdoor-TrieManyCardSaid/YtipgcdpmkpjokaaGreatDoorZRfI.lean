/- What stands while the reference goes over all exports. -/
import Derived.Test.YtipgcdpmkpjokaaGreatDoorZRfH
import Derived.Test.YtipgcdpmkpjokaaGreatDoorZAllB
import Derived.Test.YtipgcdpmkpjokaaGreatDoorZRfK
namespace Go.Proofs.YtipgcdpmkpjokaaGreatDoor
set_option linter.unusedSimpArgs false
set_option linter.unusedVariables false
open Go.RowKit

/-- The reference's walker. -/
structure DR (w0 W : World) (K : Nat) (p : Option Addr) (cap : Nat) (l : List UInt8) (met : Nat) (out : List Exp) (vo : Value) : Prop where
  row : RowAt W K 77 #[.slice p l.length cap, .int .i64 (met : Int), vo]
  bs : BS W (.slice p l.length cap) l
  far : ∀ k, inBlk (.slice p l.length cap) k → k < K
  own : W.ownsRow (K + 1) 28 7 vo out.length (expCells out)
  low : Below w0.heap.size w0 W
  ord : w0.heap.size ≤ K

/-- What is kept: all blocks but those that are written. -/
structure KR (W W' : World) (K : Nat) (vo vo' : Value) : Prop where
  size : W.heap.size ≤ W'.heap.size
  blk : ∀ k, k < W.heap.size → k ≠ K → vo.ownBlock ≠ some k → W'.heap[k]? = W.heap[k]?
  lo : Lies W vo vo'

theorem KR.trans {W W1 W2 : World} {K : Nat} {vo vo1 vo2 : Value} (h : KR W W1 K vo vo1) (k : KR W1 W2 K vo1 vo2) : KR W W2 K vo vo2 :=
  ⟨Nat.le_trans h.size k.size, fun j hj h1 h2 => (k.blk j (Nat.lt_of_lt_of_le hj h.size) h1 (h.lo.ne hj h2)).trans (h.blk j hj h1 h2), h.lo.trans k.lo h.size⟩
theorem KR.refl (W : World) (K : Nat) (vo : Value) : KR W W K vo vo := ⟨Nat.le_refl _, fun _ _ _ _ => rfl, Lies.refl _ _⟩
theorem KR.below {W W' : World} (K : Nat) (vo : Value) (hb : Below W.heap.size W W') : KR W W' K vo vo := ⟨hb.size, fun k hk _ _ => hb.block k hk, Lies.refl _ _⟩
theorem KR.row {W W' : World} {K : Nat} {vo vo' : Value} (k : KR W W' K vo vo') {X : Nat} {t : TypeId} {vs : Array Value} (h : RowAt W X t vs) (h1 : X ≠ K) (h2 : vo.ownBlock ≠ some X) : RowAt W' X t vs := (k.blk X h.lt h1 h2).trans h

theorem KR.setFar {W W' : World} {K : Nat} {vo vo' : Value} (k : KR W W' K vo vo') {N i : Nat} (hN : W.heap.size ≤ N) (u : Value) : KR W (W'.setCell ⟨N, i, none⟩ u) K vo vo' :=
  ⟨by simpa [World.setCell] using k.size, fun j hj h1 h2 => by rw [heap_setCell_other W' _ j _ (by simp; omega)]; exact k.blk j hj h1 h2, k.lo⟩

section
variable {w0 W W' : World} {K : Nat} {p : Option Addr} {cap : Nat} {l : List UInt8} {met : Nat} {out : List Exp} {vo vo' : Value}

theorem DR.vn (h : DR w0 W K p cap l met out vo) {k : Nat} (hk : k ≤ K) : vo.ownBlock ≠ some k := fun e => by have := (World.ownsRow.lt h.own k e).1; omega

/-- New blocks alone. -/
theorem DR.below (h : DR w0 W K p cap l met out vo) (hb : Below W.heap.size W W') : DR w0 W' K p cap l met out vo :=
  ⟨(hb.block K h.row.lt).trans h.row, h.bs.below hb, h.far, ownsRow_below h.own hb, h.low.trans (hb.mono h.low.size), h.ord⟩

/-- One more node was met. -/
theorem DR.setMet (h : DR w0 W K p cap l met out vo) (m : Nat) : DR w0 (W.setCell ⟨K, 1, none⟩ (.int .i64 (m : Int))) K p cap l m out vo ∧ KR W (W.setCell ⟨K, 1, none⟩ (.int .i64 (m : Int))) K vo vo := by
  have hg := grownBy_setB W K 1 (.int .i64 (m : Int))
  refine ⟨⟨?_, h.bs.grown hg (offB h.far), h.far, ownsRow_setOther h.own (h.vn (Nat.le_refl _)) _, h.low.setCell (by show w0.heap.size ≤ K; exact h.ord) _, h.ord⟩, hg.size, fun k hk h1 _ => hg.block k hk (fun e => h1 (Option.some.inj e)), Lies.refl _ _⟩
  unfold RowAt; rw [heap_setCell_same _ _ _ _ _ _ h.row]; rfl

/-- A store into a block of the call's own. -/
theorem DR.setFar (h : DR w0 W K p cap l met out vo) {N i : Nat} (hN : K < N) (hv : vo.ownBlock ≠ some N) (u : Value) : DR w0 (W.setCell ⟨N, i, none⟩ u) K p cap l met out vo := by
  have hg := grownBy_setB W N i u
  exact ⟨h.row.other (by omega) u, h.bs.grown hg (fun hb => by have := h.far _ hb; omega), h.far, ownsRow_setOther h.own hv u, h.low.setCell (by show w0.heap.size ≤ N; have := h.ord; omega) u, h.ord⟩

/-- One more export. -/
theorem DR.putOut {x : Exp} (h : DR w0 W K p cap l met out vo) (hg : Grew W W' vo vo') (ho : W'.ownsRow (K + 1) 28 7 vo' (out ++ [x]).length (expCells (out ++ [x]))) :
    DR w0 (W'.setCell ⟨K, 2, none⟩ vo') K p cap l met (out ++ [x]) vo' ∧ KR W (W'.setCell ⟨K, 2, none⟩ vo') K vo vo' := by
  have hK := h.row.lt
  have hord := h.ord
  have kb : ∀ j, j ≤ K → W'.heap[j]? = W.heap[j]? := fun j hj => hg.block (by omega) (h.vn hj)
  have hrow : RowAt W' K 77 #[.slice p l.length cap, .int .i64 (met : Int), vo] := (kb K (Nat.le_refl _)).trans h.row
  have hbs : BS W' (.slice p l.length cap) l := h.bs.of_block (fun j hj _ => kb j (Nat.le_of_lt (h.far j hj)))
  have hkn : vo'.ownBlock ≠ some K := fun e => by have := (World.ownsRow.lt ho K e).1; omega
  have hs := grownBy_setB W' K 2 vo'
  refine ⟨⟨?_, hbs.grown hs (offB h.far), h.far, ownsRow_setOther ho hkn _, ?_, h.ord⟩, ?_, fun k hk h1 h4 => ?_, ?_⟩
  · unfold RowAt; rw [heap_setCell_same _ _ _ _ _ _ hrow]; rfl
  · refine Below.setCell ?_ (by show w0.heap.size ≤ K; exact h.ord) _
    exact h.low.trans ((hg.below (B := K + 1) (by omega) (fun k e => (World.ownsRow.lt h.own k e).1)).mono (by omega))
  · simpa [World.setCell] using hg.size
  · rw [heap_setCell_other W' _ k _ (by simp; exact h1)]
    exact hg.block hk h4
  · rcases hg.lies with e | e
    · exact .inl e
    · exact .inr e

theorem DR.cells (h : DR w0 W K p cap l met out vo) : W.cell? ⟨K, 0, none⟩ = some (.slice p l.length cap) ∧ W.cell? ⟨K, 1, none⟩ = some (.int .i64 (met : Int)) ∧ W.cell? ⟨K, 2, none⟩ = some vo ∧ ∀ i, W.frozen? ⟨K, i, none⟩ = false :=
  ⟨cell_of_row W K 0 _ _ _ h.row, cell_of_row W K 1 _ _ _ h.row, cell_of_row W K 2 _ _ _ h.row, fun i => frozen_of_row W K i _ _ h.row⟩
end

/-- A row of the call's own that is none of those that are written. -/
theorem KR.own {W W' : World} {K : Nat} {vo vo' u : Value} (k : KR W W' K vo vo') {base : Nat} {e : TypeId} {size n : Nat} {xs : List Value} (h : W.ownsRow base e size u n xs) (hb : K < base) (ha : Apart u vo) : W'.ownsRow base e size u n xs ∧ Apart u vo' := by
  refine ⟨ownsRow_block h (fun j hj => ?_), fun j hj => k.lo.ne (World.ownsRow.lt h j hj).2 (ha j hj)⟩
  have h1 := World.ownsRow.lt h j hj
  exact k.blk j h1.2 (by omega) (ha j hj)

/-- A row of whole numbers, as what is appended. -/
theorem Src.ints {P : Program} {w : World} {base : Nat} {e tx e' : TypeId} (hk : P.underlying tx = some (.slice e')) {v : Value} {l : List Int} (h : w.ownsRow base e 1 v l.length (intCells l)) : Src P 1 tx v l.length (intCells l) w := by
  have h0 := h
  rcases h.2 with ⟨rfl, h1⟩ | ⟨g, cap, cur, rfl, hb, hg, hnc, hcm, hcs, htake⟩
  · obtain rfl : l = [] := List.eq_nil_of_length_eq_zero h1
    exact Src.ofNil w hk 0
  · refine Src.ofSlice w hk _ l.length cap (intCells l) (by simp [intCells]) (fun j u hu => ?_) (fun u hu => ?_)
    · have e1 : (⟨g, 0, none⟩ : Addr).add j = ⟨g, j, none⟩ := by unfold Addr.add; split <;> simp_all
      have hj : j < l.length := by have := (List.getElem?_eq_some_iff.1 hu).1; simpa [intCells] using this
      rw [e1, h0.cellAt j (by simpa using hj)]
      exact hu
    · obtain ⟨y, _, rfl⟩ := List.mem_map.1 hu
      rfl

/-- What a call of Down brings about. -/
def DownEndR (w0 W : World) (K : Nat) (p : Option Addr) (cap : Nat) (l : List UInt8) (vo : Value) (r : Nat × DownSt) (e : Ending) (W' : World) : Prop :=
  e = .returned (.int .i64 (r.1 : Int)) ∧ ∃ vo', DR w0 W' K p cap l r.2.met r.2.out vo' ∧ KR W W' K vo vo'

theorem downEndR {w0 W W' : World} {K : Nat} {p : Option Addr} {cap : Nat} {l : List UInt8} {vo vo' : Value} {r : Nat × DownSt} (n : Nat) (met : Nat) (out : List Exp) (hr : r = (n, ⟨met, out⟩)) (hd : DR w0 W' K p cap l met out vo') (hk : KR W W' K vo vo') :
    DownEndR w0 W K p cap l vo r (.returned (.int .i64 (n : Int))) W' := by
  subst hr
  exact ⟨rfl, vo', hd, hk⟩

/-- What holds at a round's head: so many children were gone over. -/
def DownRelR (w0 W : World) (K : Nat) (p : Option Addr) (cap : Nat) (l : List UInt8) (vo : Value) (X : Nat) (x : Exp) (e : Bool) (kv hv : Value) (ks : List KidM) (here : List Int) (go : KidM → DownSt → Nat × DownSt) (r : Nat × DownSt) (i : Value) (wr : World) : Prop :=
  ∃ (j : Nat) (st : DownSt) (vo2 : Value), i = .int .i64 (j : Int) ∧ j ≤ ks.length ∧ DR w0 wr K p cap l st.met st.out vo2 ∧ KR W wr K vo vo2 ∧ RowAt wr X 105 (nodeR x e kv) ∧ vo2.ownBlock ≠ some X ∧
    (wr.ownsRow (K + 1) 109 2 kv ks.length (kidCells ks) ∧ Apart kv vo2) ∧ (wr.ownsRow (K + 1) 3 1 hv here.length (intCells here) ∧ Apart hv vo2) ∧ st.met ≤ 8192 ∧ st.out.length ≤ 4096 ∧ eachKid go (ks.drop j) st = r
end Go.Proofs.YtipgcdpmkpjokaaGreatDoor
