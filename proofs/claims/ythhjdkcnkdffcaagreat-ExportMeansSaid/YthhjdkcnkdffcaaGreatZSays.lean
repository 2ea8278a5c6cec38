/- Package trie: what is said of a name. -/
import Derived.Test.YthhjdkcnkdffcaaGreatZUlebA
import Derived.Test.YthhjdkcnkdffcaaGreatZCurB
import Derived.Test.YthhjdkcnkdffcaaGreatZAppend
import Derived.Deep.RegionHeld3
namespace Go.Proofs.YthhjdkcnkdffcaaGreat
set_option linter.unusedSimpArgs false
set_option linter.unusedVariables false
open Go.RowKit
/-- A block of one value of the type t. -/
def RowAt (w : World) (X : Nat) (t : TypeId) (vs : Array Value) : Prop := w.heap[X]? = some (.cells vs t (0, 0))
theorem RowAt.lt {w : World} {X : Nat} {t : TypeId} {vs : Array Value} (h : RowAt w X t vs) : X < w.heap.size := by
  rcases Nat.lt_or_ge X w.heap.size with h' | h'
  · exact h'
  · unfold RowAt at h; rw [Array.getElem?_eq_none h'] at h; cases h
theorem RowAt.grown {w w' : World} {X : Nat} {t : TypeId} {vs : Array Value} {r : Option Nat} (h : RowAt w X t vs) (g : w.grownBy w' r) (hr : some X ≠ r) : RowAt w' X t vs := (g.block X h.lt hr).trans h
theorem CurAt.setX {w : World} {c k : Nat} {l : List UInt8} {big f : Bool} (h : CurAt w c l k big f) {X i : Nat} {x : Value} (ha : w.cell? ⟨X, i, none⟩ = some x) (hx : ∀ n, x ≠ .int .u8 n) (hne : X ≠ c) (u : Value) : CurAt (w.setCell ⟨X, i, none⟩ u) c l k big f := by
  obtain ⟨v, hv, hb, hk, hc⟩ := h
  refine ⟨v, ?_, hb, hk, by rw [heap_setCell_other w _ c u (by simpa using Ne.symm hne)]; exact hc⟩
  obtain ⟨p, cap, rfl, g1, g2, g3⟩ := hv
  refine ⟨p, cap, rfl, g1, g2, fun hne => ?_⟩
  obtain ⟨b, off, rfl, hcl⟩ := g3 hne
  refine ⟨b, off, rfl, fun j y hy => ?_⟩
  have h1 := hcl j y hy
  rw [World.cell?_setCell_other _ _ _ _ (fun e => by rw [e] at ha; rw [h1] at ha; exact hx _ (Option.some.inj ha).symm)]
  exact h1
/-- What stands while a value is made in the block X. -/
structure SaysAt (w0 W : World) (X c : Nat) (l : List UInt8) (s : Cu) (t : TypeId) (vs : Array Value) : Prop where
  row : RowAt W X t vs
  cur : CuAt W c l s
  grown : w0.grownBy W (some c)
  far : w0.heap.size ≤ X
  ne : X ≠ c
theorem SaysAt.call {w0 W W' : World} {X c : Nat} {l : List UInt8} {s s' : Cu} {t : TypeId} {vs : Array Value} (h : SaysAt w0 W X c l s t vs) (hc : CuAt W' c l s') (hg : W.grownBy W' (some c)) : SaysAt w0 W' X c l s' t vs :=
  ⟨h.row.grown hg (fun e => h.ne (Option.some.inj e)), hc, grownBy_tr h.grown hg, h.far, h.ne⟩
theorem SaysAt.below {w0 W W' : World} {X c : Nat} {l : List UInt8} {s : Cu} {t : TypeId} {vs : Array Value} (h : SaysAt w0 W X c l s t vs) (hb : Below W.heap.size W W') : SaysAt w0 W' X c l s t vs :=
  ⟨(hb.block X h.row.lt).trans h.row, CurAt.below h.cur hb, grownBy_tr h.grown (Below.all hb _), h.far, h.ne⟩
theorem SaysAt.heap {w0 W W' : World} {X c : Nat} {l : List UInt8} {s : Cu} {t : TypeId} {vs : Array Value} (h : SaysAt w0 W X c l s t vs) (hh : W'.heap = W.heap) (ho : W'.os = W.os) (ht : W'.tape = W.tape) (hu : W'.output = W.output) : SaysAt w0 W' X c l s t vs :=
  ⟨by have := h.row; unfold RowAt at this ⊢; rw [hh]; exact this, CurAt.heap h.cur hh, grownBy_heap h.grown hh ho ht hu, h.far, h.ne⟩
theorem SaysAt.cell {w0 W : World} {X c : Nat} {l : List UInt8} {s : Cu} {t : TypeId} {vs : Array Value} (h : SaysAt w0 W X c l s t vs) (i : Nat) : W.cell? ⟨X, i, none⟩ = vs[i]? := cell_of_row W X i _ _ _ h.row
theorem SaysAt.own {w0 W : World} {X c : Nat} {l : List UInt8} {s : Cu} {t : TypeId} {vs : Array Value} (h : SaysAt w0 W X c l s t vs) (i : Nat) : W.frozen? ⟨X, i, none⟩ = false := frozen_of_row W X i _ _ h.row
theorem SaysAt.set {w0 W : World} {X c : Nat} {l : List UInt8} {s : Cu} {t : TypeId} {vs : Array Value} (h : SaysAt w0 W X c l s t vs) (i : Nat) (u x : Value) (hi : vs[i]? = some x) (hx : ∀ n, x ≠ .int .u8 n) : SaysAt w0 (W.setCell ⟨X, i, none⟩ u) X c l s t (vs.setIfInBounds i u) := by
  refine ⟨?_, CurAt.setX h.cur ((h.cell i).trans hi) hx h.ne u, ?_, h.far, h.ne⟩
  · unfold RowAt; rw [heap_setCell_same _ _ _ _ _ _ h.row]
  · have g := h.grown
    refine ⟨g.os, g.tape, g.output, by simpa [World.setCell] using g.size, fun j hj hr => ?_⟩
    rw [heap_setCell_other W _ j _ (by simp; have := h.far; omega)]
    exact g.block j hj hr
theorem SaysAt.same {w0 W : World} {X c : Nat} {l : List UInt8} {s : Cu} {t : TypeId} {vs : Array Value} (h : SaysAt w0 W X c l s t vs) (i : Nat) (u : Value) (hi : vs[i]? = some u) (hx : ∀ n, u ≠ .int .u8 n) : SaysAt w0 (W.setCell ⟨X, i, none⟩ u) X c l s t vs := by
  have h1 := h.set i u u hi hx
  have e : vs.setIfInBounds i u = vs := by
    apply Array.ext_getElem?
    intro j
    rw [Array.getElem?_setIfInBounds]
    split
    · rename_i hij
      subst hij
      split
      · exact hi.symm
      · rename_i hs
        rw [Array.getElem?_eq_none (by omega)] at hi; cases hi
    · rfl
  rw [e] at h1; exact h1
/-- The same export, written once more. -/
theorem SaysAt.again {w0 W : World} {X c : Nat} {l : List UInt8} {s : Cu} {t : TypeId} {V : Exp}
    (h : SaysAt w0 W X c l s t #[.string (mkS V.name), .int .i64 V.kind, .bool V.weak, .int .u64 (V.value : Int), .int .u64 (V.resolver : Int), .int .u64 (V.ordinal : Int), .string (mkS V.other)]) :
    SaysAt w0 (((((((W.setCell ⟨X, 0, none⟩ (.string (mkS V.name))).setCell ⟨X, 1, none⟩ (.int .i64 V.kind)).setCell ⟨X, 2, none⟩ (.bool V.weak)).setCell ⟨X, 3, none⟩ (.int .u64 (V.value : Int))).setCell ⟨X, 4, none⟩ (.int .u64 (V.resolver : Int))).setCell ⟨X, 5, none⟩ (.int .u64 (V.ordinal : Int))).setCell ⟨X, 6, none⟩ (.string (mkS V.other))) X c l s t
      #[.string (mkS V.name), .int .i64 V.kind, .bool V.weak, .int .u64 (V.value : Int), .int .u64 (V.resolver : Int), .int .u64 (V.ordinal : Int), .string (mkS V.other)] := by
  have h0 := h.same 0 _ rfl (fun n h => by cases h)
  have h1 := h0.same 1 _ rfl (fun n h => by cases h)
  have h2 := h1.same 2 _ rfl (fun n h => by cases h)
  have h3 := h2.same 3 _ rfl (fun n h => by cases h)
  have h4 := h3.same 4 _ rfl (fun n h => by cases h)
  have h5 := h4.same 5 _ rfl (fun n h => by cases h)
  exact h5.same 6 _ rfl (fun n h => by cases h)
theorem SaysAt.et {w0 W : World} {X c : Nat} {l : List UInt8} {s : Cu} {t : TypeId} {vs : Array Value} (h : SaysAt w0 W X c l s t vs) (het : ET w0) (hcg : some c ≠ some 0) : ET W := het.grown h.grown hcg
end Go.Proofs.YthhjdkcnkdffcaaGreat

namespace Go.Proofs.YthhjdkcnkdffcaaGreat
set_option linter.unusedSimpArgs false
set_option linter.unusedVariables false
open Go.RowKit
set_option maxHeartbeats 400000 in
theorem trie_place (w : World) (n all : Nat) (hn : n < 2 ^ 64) (hall : all ≤ 140737488355328) :
    Calls Tryz.prog 127 #[.int .u64 (n : Nat), .int .i64 (all : Nat)] w fun e w' => e = .returned (.int .i64 (placeM n all)) ∧ w' = w := by
  have hw : IntKind.u64.wrap (all : Int) = (all : Int) := IntWalk.u64_in _ (by omega)
  unfold placeM
  by_cases h : all ≤ n
  · have hd := decide_eq_true h
    rw [if_pos h]
    clear h
    go_enter Tryz.func127, Tryz.ntmps127
    go_wp2
    go_ret
    exact ⟨rfl, rfl⟩
  · have hd := decide_eq_false h
    have hw2 : IntKind.i64.wrap (n : Int) = (n : Int) := IntWalk.i64_in _ (by omega)
    rw [if_neg h]
    clear h
    go_enter Tryz.func127, Tryz.ntmps127
    go_wp2
    go_ret
    exact ⟨rfl, rfl⟩
end Go.Proofs.YthhjdkcnkdffcaaGreat

namespace Go.Proofs.YthhjdkcnkdffcaaGreat
set_option linter.unusedSimpArgs false
set_option linter.unusedVariables false
open Go.RowKit
def KidM.cells (k : KidM) : List Value := [.string (mkS k.edge), .int .i64 k.to]
def kidCells (l : List KidM) : List Value := l.flatMap KidM.cells
theorem kidCells_snoc (l : List KidM) (k : KidM) : kidCells (l ++ [k]) = kidCells l ++ k.cells := by simp [kidCells]
/-- A row of children of the call's own. -/
def KB (w : World) (base : Nat) (v : Value) (l : List KidM) : Prop := w.ownsRow base 193 2 v l.length (kidCells l)
/-- Which first bytes were met. -/
def FirstsOf (A : Array Value) (acc : List KidM) : Prop := A.size = 256 ∧ ∀ b : UInt8, A[b.toNat]? = some (.bool (acc.any (fun k => k.edge.head? == some b)))
theorem FirstsOf.mark {A : Array Value} {acc : List KidM} (h : FirstsOf A acc) (b : UInt8) (k : KidM) (hb : k.edge.head? = some b) : FirstsOf (A.setIfInBounds b.toNat (.bool true)) (acc ++ [k]) := by
  refine ⟨by rw [Array.size_setIfInBounds]; exact h.1, fun b' => ?_⟩
  rw [Array.getElem?_setIfInBounds]
  have hA := h.2 b'
  split
  · rename_i e
    have eb : b = b' := UInt8.toNat_inj.1 e
    subst eb
    rw [if_pos (by rw [h.1]; exact b.toNat_lt)]
    simp [hb]
  · rename_i e
    rw [hA]
    have : ¬ b = b' := fun hh => e (by rw [hh])
    simp [hb, this]
/-- The node's nine cells. -/
abbrev nodeCells (x : Exp) (e : Bool) (kv : Value) : Array Value := #[.string (mkS x.name), .int .i64 x.kind, .bool x.weak, .int .u64 (x.value : Int), .int .u64 (x.resolver : Int), .int .u64 (x.ordinal : Int), .string (mkS x.other), .bool e, kv]
structure KidsIn (w W : World) (X F c : Nat) (l : List UInt8) (s : Cu) (x : Exp) (e : Bool) (kv : Value) (acc : List KidM) (A : Array Value) : Prop where
  row : RowAt W X 189 (nodeCells x e kv)
  cur : CuAt W c l s
  grown : w.grownBy W (some c)
  clt : c < w.heap.size
  farX : w.heap.size ≤ X
  farF : w.heap.size ≤ F
  neXF : X ≠ F
  fir : RowAt W F 207 A
  own : KB W w.heap.size kv acc
  kX : kv.ownBlock ≠ some X
  kF : kv.ownBlock ≠ some F
theorem CurAt.setFar {W : World} {c k : Nat} {l : List UInt8} {big f : Bool} (h : CurAt W c l k big f) {K i : Nat} (hK : c < K) (u : Value) : CurAt (W.setCell ⟨K, i, none⟩ u) c l k big f := by
  obtain ⟨v, hv, hb, hk, hc⟩ := h
  refine ⟨v, hv.of_block (fun j hj hlt => heap_setCell_other W _ j u (by simp; have := hb j hj; omega)), hb, hk, ?_⟩
  rw [heap_setCell_other W _ c u (by simp; omega)]; exact hc
theorem grownBy_far {w W : World} {c K i : Nat} (g : w.grownBy W (some c)) (hK : w.heap.size ≤ K) (u : Value) : w.grownBy (W.setCell ⟨K, i, none⟩ u) (some c) := by
  refine ⟨g.os, g.tape, g.output, by simpa [World.setCell] using g.size, fun j hj hr => ?_⟩
  rw [heap_setCell_other W _ j _ (by simp; omega)]
  exact g.block j hj hr
theorem RowAt.other {W : World} {X K i : Nat} {t : TypeId} {vs : Array Value} (h : RowAt W X t vs) (hne : X ≠ K) (u : Value) : RowAt (W.setCell ⟨K, i, none⟩ u) X t vs := by
  unfold RowAt; rw [heap_setCell_other W _ X _ (by simpa using hne)]; exact h
theorem ownsRow_setOther {w : World} {base : Nat} {e : TypeId} {size : Nat} {v : Value} {n : Nat} {xs : List Value} (h : w.ownsRow base e size v n xs) {K i : Nat} (hk : v.ownBlock ≠ some K) (u : Value) : (w.setCell ⟨K, i, none⟩ u).ownsRow base e size v n xs :=
  h.kept (grownBy_setB w K i u) (.inr hk)
section
variable {w W W' : World} {X F c : Nat} {l : List UInt8} {s s' : Cu} {x : Exp} {e : Bool} {kv kv' : Value} {acc : List KidM} {A : Array Value}
theorem KidsIn.kc (h : KidsIn w W X F c l s x e kv acc A) : kv.ownBlock ≠ some c := fun hk => by
  have h1 := (World.ownsRow.lt h.own c hk).1
  have h2 := h.clt
  omega
theorem KidsIn.size (h : KidsIn w W X F c l s x e kv acc A) : w.heap.size ≤ W.heap.size := h.grown.size
theorem KidsIn.call (h : KidsIn w W X F c l s x e kv acc A) (hc : CuAt W' c l s') (hg : W.grownBy W' (some c)) : KidsIn w W' X F c l s' x e kv acc A :=
  ⟨h.row.grown hg (fun hh => by have := Option.some.inj hh; have := h.clt; have := h.farX; omega), hc, grownBy_tr h.grown hg, h.clt, h.farX, h.farF, h.neXF,
    h.fir.grown hg (fun hh => by have := Option.some.inj hh; have := h.clt; have := h.farF; omega), h.own.kept hg (.inr h.kc), h.kX, h.kF⟩
theorem KidsIn.below (h : KidsIn w W X F c l s x e kv acc A) (hb : Below W.heap.size W W') : KidsIn w W' X F c l s x e kv acc A :=
  h.call (CurAt.below h.cur hb) (Below.all hb _)
theorem KidsIn.heap (h : KidsIn w W X F c l s x e kv acc A) (hh : W'.heap = W.heap) (ho : W'.os = W.os) (ht : W'.tape = W.tape) (hu : W'.output = W.output) : KidsIn w W' X F c l s x e kv acc A :=
  h.call (CurAt.heap h.cur hh) ⟨ho, ht, hu, by rw [hh]; exact Nat.le_refl _, fun k _ _ => by rw [hh]⟩
/-- A store into a block of the call's own. -/
theorem KidsIn.setK (h : KidsIn w W X F c l s x e kv acc A) {K i : Nat} (hK : w.heap.size ≤ K) (hX : X ≠ K) (hF : F ≠ K) (hk : kv.ownBlock ≠ some K) (u : Value) :
    KidsIn w (W.setCell ⟨K, i, none⟩ u) X F c l s x e kv acc A :=
  ⟨h.row.other hX u, CurAt.setFar h.cur (by have := h.clt; omega) u, grownBy_far h.grown hK u, h.clt, h.farX, h.farF, h.neXF, h.fir.other hF u, ownsRow_setOther h.own hk u, h.kX, h.kF⟩
/-- A mark. -/
theorem KidsIn.setF (h : KidsIn w W X F c l s x e kv acc A) (i : Nat) (u : Value) :
    KidsIn w (W.setCell ⟨F, i, none⟩ u) X F c l s x e kv acc (A.setIfInBounds i u) :=
  ⟨h.row.other h.neXF u, CurAt.setFar h.cur (by have := h.clt; have := h.farF; omega) u, grownBy_far h.grown h.farF u, h.clt, h.farX, h.farF, h.neXF,
    by unfold RowAt; rw [heap_setCell_same _ _ _ _ _ _ h.fir], ownsRow_setOther h.own h.kF u, h.kX, h.kF⟩
/-- One more child. -/
theorem KidsIn.more (h : KidsIn w W X F c l s x e kv acc A) (k : KidM) (hg : Grew W W' kv kv') (ho : KB W' w.heap.size kv' (acc ++ [k])) :
    KidsIn w (W'.setCell ⟨X, 8, none⟩ kv') X F c l s x e kv' (acc ++ [k]) A := by
  have hXl := h.row.lt
  have hFl := h.fir.lt
  have hcl := h.clt
  have hsz := h.size
  have nb : ∀ j, j < W.heap.size → kv.ownBlock ≠ some j → kv'.ownBlock ≠ some j := fun j hj hne e => by
    rcases hg.lies with h1 | ⟨i, h1, h2⟩
    · exact hne (h1.symm.trans e)
    · rw [h1] at e; cases e; omega
  have kX' := nb X hXl h.kX
  have kF' := nb F hFl h.kF
  refine ⟨?_, ?_, ?_, h.clt, h.farX, h.farF, h.neXF, ?_, ownsRow_setOther ho kX' kv', kX', kF'⟩
  · have hr : RowAt W' X _ _ := (hg.block hXl h.kX).trans h.row
    unfold RowAt; rw [heap_setCell_same _ _ _ _ _ _ hr]; rfl
  · refine CurAt.setFar ?_ (by have := h.farX; omega) kv'
    obtain ⟨v, hv, hb, hk, hc⟩ := h.cur
    have hcW : c < W.heap.size := by omega
    refine ⟨v, hv.of_block (fun j hj hlt => hg.block hlt (fun e => ?_)), hb, hk, (hg.block hcW h.kc).trans hc⟩
    have h1 := (World.ownsRow.lt h.own j e).1
    have h2 := hb j hj
    omega
  · refine grownBy_far ?_ h.farX kv'
    have g := h.grown
    refine ⟨hg.by_.os.trans g.os, hg.by_.tape.trans g.tape, hg.by_.output.trans g.output, Nat.le_trans g.size hg.size, fun j hj hr => (hg.block (by omega) (fun e => ?_)).trans (g.block j hj hr)⟩
    have h1 := (World.ownsRow.lt h.own j e).1
    omega
  · exact RowAt.other (t := 207) (show RowAt W' F _ _ from (hg.block hFl h.kF).trans h.fir) (Ne.symm h.neXF) kv'
theorem KidsIn.start {s : Cu} {x : Exp} {e : Bool} (h : SaysAt w W X c l s 189 (nodeCells x e (.slice none 0 0))) (hc : c < w.heap.size) (A : Array Value) :
    KidsIn w (W.alloc (.cells A 207)) X W.heap.size c l s x e (.slice none 0 0) [] A :=
  ⟨h.row.grown (World.grownBy_alloc W _ none) (by simp), CurAt.below h.cur ((Below.refl _ _).alloc (Nat.le_refl _) _), grownBy_tr h.grown (World.grownBy_alloc W _ _), hc, h.far, h.grown.size,
    Nat.ne_of_lt h.row.lt, heap_alloc_new W _, World.ownsRow_nil _ _ _ _, by simp [Value.ownBlock], by simp [Value.ownBlock]⟩
theorem KidsIn.sameX (h : KidsIn w W X F c l s x e kv acc A) (i : Nat) (u : Value) (hi : (nodeCells x e kv)[i]? = some u) : KidsIn w (W.setCell ⟨X, i, none⟩ u) X F c l s x e kv acc A := by
  refine ⟨?_, CurAt.setFar h.cur (by have := h.clt; have := h.farX; omega) u, grownBy_far h.grown h.farX u, h.clt, h.farX, h.farF, h.neXF, h.fir.other (Ne.symm h.neXF) u, ownsRow_setOther h.own h.kX u, h.kX, h.kF⟩
  have hsame : (nodeCells x e kv).setIfInBounds i u = nodeCells x e kv := by
    apply Array.ext_getElem?
    intro j
    rw [Array.getElem?_setIfInBounds]
    split
    · rename_i hij
      subst hij
      split
      · exact hi.symm
      · rename_i hs
        rw [Array.getElem?_eq_none (by omega)] at hi; cases hi
    · rfl
  have h1 : RowAt (W.setCell ⟨X, i, none⟩ u) X 189 ((nodeCells x e kv).setIfInBounds i u) := by
    unfold RowAt; rw [heap_setCell_same _ _ _ _ _ _ h.row]
  rw [hsame] at h1; exact h1
/-- The same node, written once more. -/
theorem KidsIn.again (h : KidsIn w W X F c l s x e kv acc A) :
    KidsIn w (((((((((W.setCell ⟨X, 0, none⟩ (.string (mkS x.name))).setCell ⟨X, 1, none⟩ (.int .i64 x.kind)).setCell ⟨X, 2, none⟩ (.bool x.weak)).setCell ⟨X, 3, none⟩ (.int .u64 (x.value : Int))).setCell ⟨X, 4, none⟩ (.int .u64 (x.resolver : Int))).setCell ⟨X, 5, none⟩ (.int .u64 (x.ordinal : Int))).setCell ⟨X, 6, none⟩ (.string (mkS x.other))).setCell ⟨X, 7, none⟩ (.bool e)).setCell ⟨X, 8, none⟩ kv) X F c l s x e kv acc A := by
  have h0 := h.sameX 0 (.string (mkS x.name)) rfl
  have h1 := h0.sameX 1 (.int .i64 x.kind) rfl
  have h2 := h1.sameX 2 (.bool x.weak) rfl
  have h3 := h2.sameX 3 (.int .u64 (x.value : Int)) rfl
  have h4 := h3.sameX 4 (.int .u64 (x.resolver : Int)) rfl
  have h5 := h4.sameX 5 (.int .u64 (x.ordinal : Int)) rfl
  have h6 := h5.sameX 6 (.string (mkS x.other)) rfl
  have h7 := h6.sameX 7 (.bool e) rfl
  exact h7.sameX 8 kv rfl
theorem KidsIn.form (h : KidsIn w W X F c l s x e kv acc A) : ∃ p cp, kv = .slice p acc.length cp := ownsRow_form h.own
theorem KidsIn.says (h : KidsIn w W X F c l s x e kv acc A) : SaysAt w W X c l s 189 (nodeCells x e kv) := ⟨h.row, h.cur, h.grown, h.farX, by have := h.clt; have := h.farX; omega⟩
end
@[go_sem] theorem mkS_head (b : UInt8) (r : List UInt8) (h : 0 < (mkS (b :: r)).size) : (mkS (b :: r))[0] = b := rfl
theorem Tryz.infoKid : (Tryz.prog.info? 193).map (fun i => (i.zero, i.size, i.bytes)) = some (some (.agg #[.string ⟨#[]⟩, .int .i64 0]), 2, 24) := by kernel_rfl
theorem zeros85 : Tryz.zeroCells207 = Array.replicate 256 (.bool false) := by kernel_rfl
theorem firsts_none : FirstsOf Tryz.zeroCells207 [] := by
  rw [zeros85]
  refine ⟨by simp, fun b => ?_⟩
  rw [Array.getElem?_replicate, if_pos b.toNat_lt]
  rfl
end Go.Proofs.YthhjdkcnkdffcaaGreat
