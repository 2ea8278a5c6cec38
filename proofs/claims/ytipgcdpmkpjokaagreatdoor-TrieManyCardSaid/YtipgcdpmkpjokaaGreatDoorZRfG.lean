/- The reference's reading of a node against the program's: plain laws. No program in sight. -/
import Derived.Test.YtipgcdpmkpjokaaGreatDoorZRfB
import Derived.Test.YtipgcdpmkpjokaaGreatDoorZCurB
import Derived.Test.YtipgcdpmkpjokaaGreatDoorZRfE
import Derived.Test.YtipgcdpmkpjokaaGreatDoorZFindB
namespace Go.Proofs.YtipgcdpmkpjokaaGreatDoor
set_option linter.unusedSimpArgs false
set_option linter.unusedVariables false

theorem restM_ref (l : List UInt8) (n : Nat) (s : Cu) (acc : List KidM) (hs : s.bad = false) :
    restM l (n + 1) s acc = if (numR l (textRf l s).2).2.bad = true ∨ (textRf l s).1 = [] then none else if acc.any (fun x => x.edge.head? == (textRf l s).1.head?) then none else restM l n (numR l (textRf l s).2).2 (acc ++ [⟨(textRf l s).1, placeM (numR l (textRf l s).2).1 l.length⟩]) := by
  obtain ⟨k, b⟩ := s
  simp at hs
  subst hs
  rw [restM_step l n ⟨k, false⟩ (textC l 255 ⟨k, false⟩).2 (numC l (textC l 255 ⟨k, false⟩).2).2 acc (textC l 255 ⟨k, false⟩).1 (numC l (textC l 255 ⟨k, false⟩).2).1 rfl rfl, textRf_good]
  cases ht : textR (l.drop k) with
  | none => rw [textC_none ht]; simp
  | some q =>
    obtain ⟨t, j⟩ := q
    rw [textC_some ht]
    dsimp only
    rw [← numR_good]
    by_cases h0 : t = []
    · rw [if_pos h0, if_pos (.inr h0)]
    · rw [if_neg h0]
      obtain ⟨v, s2⟩ := numR l ⟨k + j, false⟩
      obtain ⟨a2, b2⟩ := s2
      cases b2 with
      | true =>
        have e : ∀ acc', restM l n ⟨a2, true⟩ acc' = none := fun _ => rfl
        simp [e]
      | false => simp [h0]

theorem headM_ref {l : List UInt8} {at_ size k : Nat} (hs : size ≠ 0) (hb : size ≤ l.length - (at_ + k)) :
    headM l at_ size k = if ((saysRf ((l.drop (at_ + k)).take size)).2.1 && (saysRf ((l.drop (at_ + k)).take size)).2.2.at_ == size) = true then some (saysRf ((l.drop (at_ + k)).take size)).1 else none := by
  have hl : (l.drop (at_ + k)).length = l.length - (at_ + k) := List.length_drop
  have hlen : ((l.drop (at_ + k)).take size).length = size := by rw [List.length_take, hl]; omega
  have hj := saysRf_just ((l.drop (at_ + k)).take size)
  rw [hlen] at hj
  unfold headM
  rw [if_neg hs]
  by_cases hok : ((saysRf ((l.drop (at_ + k)).take size)).2.1 && (saysRf ((l.drop (at_ + k)).take size)).2.2.at_ == size) = true
  · rw [if_pos hok]
    obtain ⟨x, hx⟩ := hj.1 hok
    have h1 := (says_just (l.drop (at_ + k)) size (by omega) x).1 hx
    rw [h1]
    dsimp only
    rw [if_pos rfl]
    have h2 := saysRf_R ((l.drop (at_ + k)).take size)
    rw [hx] at h2
    dsimp only at h2
    rw [h2]
  · rw [if_neg hok]
    cases h : saysR (l.drop (at_ + k)) with
    | none => rfl
    | some q =>
      obtain ⟨x, k2⟩ := q
      dsimp only
      split
      · rename_i e
        subst e
        exact absurd (hj.2 ⟨x, (says_just (l.drop (at_ + k)) k2 (by omega) x).2 h⟩) hok
      · rfl
end Go.Proofs.YtipgcdpmkpjokaaGreatDoor

namespace Go.Proofs.YtipgcdpmkpjokaaGreatDoor
set_option linter.unusedSimpArgs false
set_option linter.unusedVariables false
open Go.RowKit

/-- The reference's node, its nine cells. -/
abbrev nodeR (x : Exp) (e : Bool) (kv : Value) : Array Value := #[.bool e, .string (mkS x.name), .int .i64 x.kind, .bool x.weak, .int .u64 (x.value : Int), .int .u64 (x.resolver : Int), .int .u64 (x.ordinal : Int), .string (mkS x.other), kv]
abbrev nodeZ : Array Value := #[.bool false, .string ⟨#[]⟩, .int .i64 0, .bool false, .int .u64 0, .int .u64 0, .int .u64 0, .string ⟨#[]⟩, .slice none 0 0]

/-- What a call of Read brings about. -/
def ReadR (w w' : World) (l : List UInt8) (at_ : Nat) (nv : Value) (b : Bool) : Prop :=
  Below w.heap.size w w' ∧ ∃ x e kv, nv = .agg (nodeR x e kv) ∧ (∃ p n cp, kv = .slice p n cp) ∧
  match readM l at_ with
  | some n => b = true ∧ x = n.says ∧ e = n.ends ∧ w'.ownsRow w.heap.size 109 2 kv n.kids.length (kidCells n.kids)
  | none => b = false

structure NS (w W : World) (R X c : Nat) (p : Option Addr) (cap : Nat) (l : List UInt8) (s : Cu) (x : Exp) (e : Bool) (kv : Value) (acc : List KidM) : Prop where
  res : RowAt W R 105 nodeZ
  row : RowAt W X 105 (nodeR x e kv)
  cur : RAt W c p cap l s
  own : W.ownsRow (c + 1) 109 2 kv acc.length (kidCells acc)
  low : Below w.heap.size w W
  ord : w.heap.size ≤ R ∧ R < X ∧ X < c

/-- What a call of Read brings about, and what it returns. -/
def ReadRet (w : World) (l : List UInt8) (at_ : Nat) (e : Ending) (w' : World) : Prop := ∃ nv b, e = .returned (.tuple #[nv, .bool b]) ∧ ReadR w w' l at_ nv b

/-- The same, of any cells of the node. -/
def NSW (w V : World) (R X c : Nat) (p : Option Addr) (cap : Nat) (l : List UInt8) (s : Cu) (kv : Value) (acc : List KidM) (vs : Array Value) : Prop :=
  RowAt V R 105 nodeZ ∧ RowAt V X 105 vs ∧ RAt V c p cap l s ∧ V.ownsRow (c + 1) 109 2 kv acc.length (kidCells acc) ∧ Below w.heap.size w V

section
variable {w W W' : World} {R X c : Nat} {p : Option Addr} {cap : Nat} {l : List UInt8} {s s' : Cu} {x : Exp} {e : Bool} {kv kv' : Value} {acc : List KidM}

theorem NS.kn (h : NS w W R X c p cap l s x e kv acc) {k : Nat} (hk : k ≤ c) : kv.ownBlock ≠ some k := fun e => by have := (World.ownsRow.lt h.own k e).1; omega
theorem NS.form (h : NS w W R X c p cap l s x e kv acc) : ∃ a cp, kv = .slice a acc.length cp := ownsRow_form h.own

theorem NS.call (h : NS w W R X c p cap l s x e kv acc) (hc : RAt W' c p cap l s') (hg : W.grownBy W' (some c)) : NS w W' R X c p cap l s' x e kv acc := by
  have ho := h.ord
  exact ⟨h.res.grown hg (fun e => by have := Option.some.inj e; omega), h.row.grown hg (fun e => by have := Option.some.inj e; omega), hc, h.own.kept hg (.inr (h.kn (Nat.le_refl _))), h.low.grown hg h.low.size (fun j e => by have := Option.some.inj e; omega), ho⟩

theorem RAt.below (h : RAt W c p cap l s) (hb : Below W.heap.size W W') : RAt W' c p cap l s := ⟨h.bs.below hb, h.far, h.le, (hb.block _ h.row.lt).trans h.row⟩

theorem NS.below (h : NS w W R X c p cap l s x e kv acc) (hb : Below W.heap.size W W') : NS w W' R X c p cap l s x e kv acc := h.call (h.cur.below hb) (Below.all hb _)

theorem NS.heap (h : NS w W R X c p cap l s x e kv acc) (hh : W'.heap = W.heap) (ho : W'.os = W.os) (ht : W'.tape = W.tape) (hu : W'.output = W.output) : NS w W' R X c p cap l s x e kv acc :=
  h.call (h.cur.heap hh) ⟨ho, ht, hu, by rw [hh]; exact Nat.le_refl _, fun k _ _ => by rw [hh]⟩

/-- A store into a block of the call's own behind the cursor. -/
theorem NS.far (h : NS w W R X c p cap l s x e kv acc) {N i : Nat} (hN : c < N) (hv : kv.ownBlock ≠ some N) (u : Value) : NS w (W.setCell ⟨N, i, none⟩ u) R X c p cap l s x e kv acc := by
  have ho := h.ord
  exact ⟨h.res.other (by omega) u, h.row.other (by omega) u, h.cur.setFar hN u, ownsRow_setOther h.own hv u, h.low.setCell (by show w.heap.size ≤ N; omega) u, ho⟩

theorem NS.farE (h : NS w W R X c p cap l s x e kv acc) {N : Nat} (hN : c < N) (hv : kv.ownBlock ≠ some N) (y : Exp) : NS w (putE W N y) R X c p cap l s x e kv acc := by
  unfold putE
  exact ((((((h.far (i := 0) hN hv _).far (i := 1) hN hv _).far (i := 2) hN hv _).far (i := 3) hN hv _).far (i := 4) hN hv _).far (i := 5) hN hv _).far (i := 6) hN hv _

/-- A store into the cursor. -/
theorem NS.setAt (h : NS w W R X c p cap l s x e kv acc) (k : Nat) (hk : k ≤ l.length) : NS w (W.setCell ⟨c, 1, none⟩ (.int .i64 (k : Nat))) R X c p cap l ⟨k, s.bad⟩ x e kv acc :=
  h.call (h.cur.setAt k hk) (grownBy_setB W c 1 _)

theorem inBlk_low (h : RAt W c p cap l s) {k : Nat} (hk : inBlk (.slice p l.length cap) k) : k < c := h.far k hk

/-- The bytes do not lie in the blocks of the call's own. -/
structure NSB (w : World) (p : Option Addr) (cap : Nat) (l : List UInt8) : Prop where
  far : ∀ k, inBlk (.slice p l.length cap) k → k < w.heap.size

theorem RAt.setAny (h : RAt W c p cap l s) {K i : Nat} (hb : ¬ inBlk (.slice p l.length cap) K) (hK : K ≠ c) (u : Value) : RAt (W.setCell ⟨K, i, none⟩ u) c p cap l s :=
  ⟨h.bs.of_block (fun j hj hlt => heap_setCell_other W _ j u (by simp; intro e; subst e; exact hb hj)), h.far, h.le, h.row.other hK.symm u⟩

/-- A store into the node. -/
theorem NS.setX (h : NS w W R X c p cap l s x e kv acc) (hb : NSB w p cap l) (i : Nat) (u : Value) (vs : Array Value) (hv : RowAt W X 105 vs) : RAt (W.setCell ⟨X, i, none⟩ u) c p cap l s ∧ RowAt (W.setCell ⟨X, i, none⟩ u) R 105 nodeZ ∧ RowAt (W.setCell ⟨X, i, none⟩ u) X 105 (vs.setIfInBounds i u) := by
  have ho := h.ord
  refine ⟨h.cur.setAny (fun hk => by have := hb.far _ hk; omega) (by omega) u, h.res.other (by omega) u, ?_⟩
  unfold RowAt; rw [heap_setCell_same _ _ _ _ _ _ hv]

/-- What is said, written into the node; it ends a name. -/
theorem NS.said (h : NS w W R X c p cap l s x e kv acc) (hb : NSB w p cap l) (y : Exp) :
    NS w ((((((((W.setCell ⟨X, 0, none⟩ (.bool true)).setCell ⟨X, 1, none⟩ (.string (mkS y.name))).setCell ⟨X, 2, none⟩ (.int .i64 y.kind)).setCell ⟨X, 3, none⟩ (.bool y.weak)).setCell ⟨X, 4, none⟩ (.int .u64 (y.value : Int))).setCell ⟨X, 5, none⟩ (.int .u64 (y.resolver : Int))).setCell ⟨X, 6, none⟩ (.int .u64 (y.ordinal : Int))).setCell ⟨X, 7, none⟩ (.string (mkS y.other))) R X c p cap l s y true kv acc := by
  have ho := h.ord
  have hbX : ¬ inBlk (.slice p l.length cap) X := fun hk => by have := hb.far _ hk; omega
  have hkX := h.kn (k := X) (by omega)
  have step : ∀ {V : World} {vs : Array Value} (i : Nat) (u : Value) (vs' : Array Value), vs.setIfInBounds i u = vs' → NSW w V R X c p cap l s kv acc vs → NSW w (V.setCell ⟨X, i, none⟩ u) R X c p cap l s kv acc vs' := fun {V vs} i u vs' he g =>
    ⟨g.1.other (by omega) u, by unfold RowAt; rw [heap_setCell_same _ _ _ _ _ _ g.2.1, he], g.2.2.1.setAny hbX (by omega) u, ownsRow_setOther g.2.2.2.1 hkX u, g.2.2.2.2.setCell (by show w.heap.size ≤ X; omega) u⟩
  have g : NSW w W R X c p cap l s kv acc (nodeR x e kv) := ⟨h.res, h.row, h.cur, h.own, h.low⟩
  have g0 := step 0 (.bool true) #[.bool true, .string (mkS x.name), .int .i64 x.kind, .bool x.weak, .int .u64 (x.value : Int), .int .u64 (x.resolver : Int), .int .u64 (x.ordinal : Int), .string (mkS x.other), kv] rfl g
  have g1 := step 1 (.string (mkS y.name)) #[.bool true, .string (mkS y.name), .int .i64 x.kind, .bool x.weak, .int .u64 (x.value : Int), .int .u64 (x.resolver : Int), .int .u64 (x.ordinal : Int), .string (mkS x.other), kv] rfl g0
  have g2 := step 2 (.int .i64 y.kind) #[.bool true, .string (mkS y.name), .int .i64 y.kind, .bool x.weak, .int .u64 (x.value : Int), .int .u64 (x.resolver : Int), .int .u64 (x.ordinal : Int), .string (mkS x.other), kv] rfl g1
  have g3 := step 3 (.bool y.weak) #[.bool true, .string (mkS y.name), .int .i64 y.kind, .bool y.weak, .int .u64 (x.value : Int), .int .u64 (x.resolver : Int), .int .u64 (x.ordinal : Int), .string (mkS x.other), kv] rfl g2
  have g4 := step 4 (.int .u64 (y.value : Int)) #[.bool true, .string (mkS y.name), .int .i64 y.kind, .bool y.weak, .int .u64 (y.value : Int), .int .u64 (x.resolver : Int), .int .u64 (x.ordinal : Int), .string (mkS x.other), kv] rfl g3
  have g5 := step 5 (.int .u64 (y.resolver : Int)) #[.bool true, .string (mkS y.name), .int .i64 y.kind, .bool y.weak, .int .u64 (y.value : Int), .int .u64 (y.resolver : Int), .int .u64 (x.ordinal : Int), .string (mkS x.other), kv] rfl g4
  have g6 := step 6 (.int .u64 (y.ordinal : Int)) #[.bool true, .string (mkS y.name), .int .i64 y.kind, .bool y.weak, .int .u64 (y.value : Int), .int .u64 (y.resolver : Int), .int .u64 (y.ordinal : Int), .string (mkS x.other), kv] rfl g5
  have g7 := step 7 (.string (mkS y.other)) #[.bool true, .string (mkS y.name), .int .i64 y.kind, .bool y.weak, .int .u64 (y.value : Int), .int .u64 (y.resolver : Int), .int .u64 (y.ordinal : Int), .string (mkS y.other), kv] rfl g6
  exact ⟨g7.1, g7.2.1, g7.2.2.1, g7.2.2.2.1, g7.2.2.2.2, ho⟩

/-- One more child. -/
theorem NS.put {k : KidM} (h : NS w W R X c p cap l s x e kv acc) (hb : NSB w p cap l) (hg : Grew W W' kv kv') (ho : W'.ownsRow (c + 1) 109 2 kv' (acc ++ [k]).length (kidCells (acc ++ [k]))) :
    NS w (W'.setCell ⟨X, 8, none⟩ kv') R X c p cap l s x e kv' (acc ++ [k]) := by
  have hO := h.ord
  have hcl := h.cur.row.lt
  have kb : ∀ j, j ≤ c → W'.heap[j]? = W.heap[j]? := fun j hj => hg.block (by omega) (h.kn hj)
  have hcur : RAt W' c p cap l s := ⟨h.cur.bs.of_block (fun j hj _ => kb j (Nat.le_of_lt (h.cur.far j hj))), h.cur.far, h.cur.le, (kb c (Nat.le_refl _)).trans h.cur.row⟩
  have hbX : ¬ inBlk (.slice p l.length cap) X := fun hk => by have := hb.far _ hk; omega
  have hkX : kv'.ownBlock ≠ some X := fun e => by have := (World.ownsRow.lt ho X e).1; omega
  refine ⟨RowAt.other (show RowAt W' R _ _ from (kb R (by omega)).trans h.res) (by omega) _, ?_, hcur.setAny hbX (by omega) _, ownsRow_setOther ho hkX _, ?_, hO⟩
  · unfold RowAt; rw [heap_setCell_same _ _ _ _ _ _ (show RowAt W' X _ _ from (kb X (by omega)).trans h.row)]; rfl
  · refine Below.setCell ?_ (by show w.heap.size ≤ X; omega) _
    exact h.low.trans ((hg.below (B := c + 1) (by omega) (fun j e => (World.ownsRow.lt h.own j e).1)).mono (by omega))

/-- A node written into a block, cell by cell. -/
def putN (W : World) (R : Nat) (x : Exp) (e : Bool) (kv : Value) : World := (((((((((W.setCell ⟨R, 0, none⟩ (.bool e)).setCell ⟨R, 1, none⟩ (.string (mkS x.name))).setCell ⟨R, 2, none⟩ (.int .i64 x.kind)).setCell ⟨R, 3, none⟩ (.bool x.weak)).setCell ⟨R, 4, none⟩ (.int .u64 (x.value : Int))).setCell ⟨R, 5, none⟩ (.int .u64 (x.resolver : Int))).setCell ⟨R, 6, none⟩ (.int .u64 (x.ordinal : Int))).setCell ⟨R, 7, none⟩ (.string (mkS x.other))).setCell ⟨R, 8, none⟩ (kv))

/-- The node, written into the result's block. -/
theorem NS.ret (h : NS w W R X c p cap l s x e kv acc) : RowAt (putN W R x e kv) R 105 (nodeR x e kv) ∧ Below w.heap.size w (putN W R x e kv) ∧ (putN W R x e kv).ownsRow w.heap.size 109 2 kv acc.length (kidCells acc) := by
  have ho := h.ord
  have hkR := h.kn (k := R) (by omega)
  have step : ∀ {V : World} {vs : Array Value} (i : Nat) (u : Value) (vs' : Array Value), vs.setIfInBounds i u = vs' → (RowAt V R 105 vs ∧ Below w.heap.size w V ∧ V.ownsRow w.heap.size 109 2 kv acc.length (kidCells acc)) → (RowAt (V.setCell ⟨R, i, none⟩ u) R 105 vs' ∧ Below w.heap.size w (V.setCell ⟨R, i, none⟩ u) ∧ (V.setCell ⟨R, i, none⟩ u).ownsRow w.heap.size 109 2 kv acc.length (kidCells acc)) := fun {V vs} i u vs' he g =>
    ⟨by unfold RowAt; rw [heap_setCell_same _ _ _ _ _ _ g.1, he], g.2.1.setCell (by show w.heap.size ≤ R; omega) u, ownsRow_setOther g.2.2 hkR u⟩
  have g : RowAt W R 105 nodeZ ∧ Below w.heap.size w W ∧ W.ownsRow w.heap.size 109 2 kv acc.length (kidCells acc) := ⟨h.res, h.low, ownsRow_base h.own (by omega)⟩
  have g0 := step 0 (.bool e) #[.bool e, .string ⟨#[]⟩, .int .i64 0, .bool false, .int .u64 0, .int .u64 0, .int .u64 0, .string ⟨#[]⟩, .slice none 0 0] rfl g
  have g1 := step 1 (.string (mkS x.name)) #[.bool e, .string (mkS x.name), .int .i64 0, .bool false, .int .u64 0, .int .u64 0, .int .u64 0, .string ⟨#[]⟩, .slice none 0 0] rfl g0
  have g2 := step 2 (.int .i64 x.kind) #[.bool e, .string (mkS x.name), .int .i64 x.kind, .bool false, .int .u64 0, .int .u64 0, .int .u64 0, .string ⟨#[]⟩, .slice none 0 0] rfl g1
  have g3 := step 3 (.bool x.weak) #[.bool e, .string (mkS x.name), .int .i64 x.kind, .bool x.weak, .int .u64 0, .int .u64 0, .int .u64 0, .string ⟨#[]⟩, .slice none 0 0] rfl g2
  have g4 := step 4 (.int .u64 (x.value : Int)) #[.bool e, .string (mkS x.name), .int .i64 x.kind, .bool x.weak, .int .u64 (x.value : Int), .int .u64 0, .int .u64 0, .string ⟨#[]⟩, .slice none 0 0] rfl g3
  have g5 := step 5 (.int .u64 (x.resolver : Int)) #[.bool e, .string (mkS x.name), .int .i64 x.kind, .bool x.weak, .int .u64 (x.value : Int), .int .u64 (x.resolver : Int), .int .u64 0, .string ⟨#[]⟩, .slice none 0 0] rfl g4
  have g6 := step 6 (.int .u64 (x.ordinal : Int)) #[.bool e, .string (mkS x.name), .int .i64 x.kind, .bool x.weak, .int .u64 (x.value : Int), .int .u64 (x.resolver : Int), .int .u64 (x.ordinal : Int), .string ⟨#[]⟩, .slice none 0 0] rfl g5
  have g7 := step 7 (.string (mkS x.other)) #[.bool e, .string (mkS x.name), .int .i64 x.kind, .bool x.weak, .int .u64 (x.value : Int), .int .u64 (x.resolver : Int), .int .u64 (x.ordinal : Int), .string (mkS x.other), .slice none 0 0] rfl g6
  have g8 := step 8 (kv) #[.bool e, .string (mkS x.name), .int .i64 x.kind, .bool x.weak, .int .u64 (x.value : Int), .int .u64 (x.resolver : Int), .int .u64 (x.ordinal : Int), .string (mkS x.other), kv] rfl g7
  exact g8

theorem NS.zeros (h : NS w W R X c p cap l s x e kv acc) : (W.cell? ⟨R, 0, none⟩ = some (.bool false) ∧ W.cell? ⟨R, 1, none⟩ = some (.string ⟨#[]⟩) ∧ W.cell? ⟨R, 2, none⟩ = some (.int .i64 0) ∧ W.cell? ⟨R, 3, none⟩ = some (.bool false) ∧ W.cell? ⟨R, 4, none⟩ = some (.int .u64 0) ∧ W.cell? ⟨R, 5, none⟩ = some (.int .u64 0) ∧ W.cell? ⟨R, 6, none⟩ = some (.int .u64 0) ∧ W.cell? ⟨R, 7, none⟩ = some (.string ⟨#[]⟩) ∧ W.cell? ⟨R, 8, none⟩ = some (.slice none 0 0)) ∧ (∀ i, W.frozen? ⟨R, i, none⟩ = false) ∧
    (W.setCell ⟨R, 0, none⟩ (.bool false) = W ∧ W.setCell ⟨R, 1, none⟩ (.string ⟨#[]⟩) = W ∧ W.setCell ⟨R, 2, none⟩ (.int .i64 0) = W ∧ W.setCell ⟨R, 3, none⟩ (.bool false) = W ∧ W.setCell ⟨R, 4, none⟩ (.int .u64 0) = W ∧ W.setCell ⟨R, 5, none⟩ (.int .u64 0) = W ∧ W.setCell ⟨R, 6, none⟩ (.int .u64 0) = W ∧ W.setCell ⟨R, 7, none⟩ (.string ⟨#[]⟩) = W ∧ W.setCell ⟨R, 8, none⟩ (.slice none 0 0) = W) :=
  ⟨⟨cell_of_row W R 0 _ _ _ h.res, cell_of_row W R 1 _ _ _ h.res, cell_of_row W R 2 _ _ _ h.res, cell_of_row W R 3 _ _ _ h.res, cell_of_row W R 4 _ _ _ h.res, cell_of_row W R 5 _ _ _ h.res, cell_of_row W R 6 _ _ _ h.res, cell_of_row W R 7 _ _ _ h.res, cell_of_row W R 8 _ _ _ h.res⟩, fun i => frozen_of_row W R i _ _ h.res,
    setCell_self h.res 0 _ rfl, setCell_self h.res 1 _ rfl, setCell_self h.res 2 _ rfl, setCell_self h.res 3 _ rfl, setCell_self h.res 4 _ rfl, setCell_self h.res 5 _ rfl, setCell_self h.res 6 _ rfl, setCell_self h.res 7 _ rfl, setCell_self h.res 8 _ rfl⟩

theorem NS.curs (h : NS w W R X c p cap l s x e kv acc) : W.cell? ⟨c, 0, none⟩ = some (.slice p l.length cap) ∧ W.cell? ⟨c, 1, none⟩ = some (.int .i64 (s.at_ : Nat)) ∧ W.cell? ⟨c, 2, none⟩ = some (.bool s.bad) ∧ ∀ i, W.frozen? ⟨c, i, none⟩ = false :=
  ⟨cell_of_row W c 0 _ _ _ h.cur.row, cell_of_row W c 1 _ _ _ h.cur.row, cell_of_row W c 2 _ _ _ h.cur.row, fun i => frozen_of_row W c i _ _ h.cur.row⟩
end

theorem zeroE_cells {W : World} {N : Nat} {t : TypeId} (h : RowAt W N t Exp.zero.cells.toArray) : W.cell? ⟨N, 0, none⟩ = some (.string ⟨#[]⟩) ∧ W.cell? ⟨N, 1, none⟩ = some (.int .i64 0) ∧ W.cell? ⟨N, 2, none⟩ = some (.bool false) ∧ W.cell? ⟨N, 3, none⟩ = some (.int .u64 0) ∧ W.cell? ⟨N, 4, none⟩ = some (.int .u64 0) ∧ W.cell? ⟨N, 5, none⟩ = some (.int .u64 0) ∧ W.cell? ⟨N, 6, none⟩ = some (.string ⟨#[]⟩) ∧ ∀ i, W.frozen? ⟨N, i, none⟩ = false :=
  ⟨cell_of_row W N 0 _ _ _ h, cell_of_row W N 1 _ _ _ h, cell_of_row W N 2 _ _ _ h, cell_of_row W N 3 _ _ _ h, cell_of_row W N 4 _ _ _ h, cell_of_row W N 5 _ _ _ h, cell_of_row W N 6 _ _ _ h, fun i => frozen_of_row W N i _ _ h⟩

/-- A child's two cells, of whatever type of children. -/
theorem kidsRow_at {W : World} {base : Nat} {t : TypeId} {kv : Value} {ks : List KidM} (h : W.ownsRow base t 2 kv ks.length (kidCells ks)) {i : Nat} {k : KidM} (hk : ks[i]? = some k) :
    ∃ g cap, kv = .slice (some ⟨g, 0, none⟩) ks.length cap ∧ g < W.heap.size ∧ W.cell? ⟨g, i * 2, none⟩ = some (.string (mkS k.edge)) ∧ W.cell? ⟨g, i * 2 + 1, none⟩ = some (.int .i64 k.to) := by
  have hlt := (List.getElem?_eq_some_iff.1 hk).1
  rcases h.2 with ⟨_, h1⟩ | ⟨g, cap, cur, rfl, h2, hg, h3, h4, h5, h6⟩
  · omega
  · obtain ⟨h7, h8⟩ := kidCells_get ks i k hk
    refine ⟨g, cap, rfl, (World.ownsRow.lt h g rfl).2, ?_, ?_⟩
    · rw [cell_of_row W g (i * 2) _ _ _ hg]
      rw [← h6, List.getElem?_take, if_pos (by omega)] at h7
      simpa using h7
    · rw [cell_of_row W g (i * 2 + 1) _ _ _ hg]
      rw [← h6, List.getElem?_take, if_pos (by omega)] at h8
      simpa using h8

theorem any_snoc {l : List KidM} {j : Nat} {x : KidM} (hx : l[j]? = some x) (p : KidM → Bool) : (l.take (j + 1)).any p = ((l.take j).any p || p x) := by
  rw [List.take_add_one, hx]; simp

theorem row3 (w : World) (o0 o1 o2 : Obj) : (((w.alloc o0).alloc o1).alloc o2).heap[w.heap.size]? = some o0 ∧ (((w.alloc o0).alloc o1).alloc o2).heap[w.heap.size + 1]? = some o1 ∧ (((w.alloc o0).alloc o1).alloc o2).heap[w.heap.size + 2]? = some o2 := by
  refine ⟨?_, ?_, ?_⟩
  · exact (Below.heap_alloc ((w.alloc o0).alloc o1) o2 _ (by simp; try omega)).trans ((Below.heap_alloc (w.alloc o0) o1 _ (by simp; try omega)).trans (heap_alloc_new w o0))
  · have hs : (w.alloc o0).heap.size = w.heap.size + 1 := by simp
    rw [← hs]; exact (Below.heap_alloc ((w.alloc o0).alloc o1) o2 _ (by simp; try omega)).trans (heap_alloc_new (w.alloc o0) o1)
  · have hs : ((w.alloc o0).alloc o1).heap.size = w.heap.size + 2 := by simp
    rw [← hs]; exact heap_alloc_new ((w.alloc o0).alloc o1) o2

theorem NS.start {w : World} {p : Option Addr} {cap : Nat} {l : List UInt8} (h : BS w (.slice p l.length cap) l) {at_ : Nat} (hat : at_ ≤ l.length) :
    NS w (((w.alloc (.cells nodeZ 105)).alloc (.cells nodeZ 105)).alloc (.cells #[.slice p l.length cap, .int .i64 (at_ : Nat), .bool false] 136)) w.heap.size (w.heap.size + 1) (w.heap.size + 2) p cap l ⟨at_, false⟩ Exp.zero false (.slice none 0 0) [] := by
  have hb : Below w.heap.size w (((w.alloc (.cells nodeZ 105)).alloc (.cells nodeZ 105)).alloc (.cells #[.slice p l.length cap, .int .i64 (at_ : Nat), .bool false] 136)) :=
    (((Below.refl _ _).alloc (Nat.le_refl _) _).alloc (by simp) _).alloc (by simp; omega) _
  have hr := row3 w (.cells nodeZ 105) (.cells nodeZ 105) (.cells #[.slice p l.length cap, .int .i64 (at_ : Nat), .bool false] 136)
  exact ⟨hr.1, hr.2.1, ⟨h.below hb, fun k hk => by have := inBlk_lt h hk; omega, hat, hr.2.2⟩, World.ownsRow_nil _ _ _ _, hb, Nat.le_refl _, by omega, by omega⟩

theorem Tryz.infoKidR : (Tryz.prog.info? 109).map (fun i => (i.zero, i.size, i.bytes)) = some (some (.agg #[.string ⟨#[]⟩, .int .i64 0]), 2, 24) := by kernel_rfl
end Go.Proofs.YtipgcdpmkpjokaaGreatDoor
