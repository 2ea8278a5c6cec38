/- A row of numbers of the call's own: sorted, each kept once. -/
import Derived.Test.YtjfkgdfmkofbmaaGreatDoorZBpI
import Derived.Test.YtjfkgdfmkofbmaaGreatDoorZSo9
import Derived.Test.YtjfkgdfmkofbmaaGreatDoorZBdE
import Derived.Sort.OwnSortedInts
import Derived.Test.YtjfkgdfmkofbmaaGreatDoorZStepB
namespace Go.Proofs.YtjfkgdfmkofbmaaGreatDoor
set_option linter.unusedSimpArgs false
set_option linter.unusedVariables false
open Go.RowKit Go.Sort

theorem holds64 {w : World} {g : Nat} {cur : Array Value} {e : TypeId} {ss : List Int} (hb : w.heap[g]? = some (.cells cur e (0, 0))) (ht : cur.toList.take ss.length = ss.map (Value.int .u64)) : Holds (Value.int .u64) w g 0 ss.toArray := by
  intro j hj
  have hj' : j < ss.length := by simpa using hj
  refine ⟨?_, by simp [World.frozen?, hb]⟩
  have h1 : (cur.toList.take ss.length)[j]? = (ss.map (Value.int .u64))[j]? := by rw [ht]
  rw [List.getElem?_take_of_lt hj'] at h1
  simp only [World.cell?, hb, Nat.zero_add]
  simp only [Option.isSome_none, Bool.false_eq_true, if_false]
  rw [← Array.getElem?_toList, h1]
  simp [hj']
theorem heap64 {w : World} {g n : Nat} {os : Array Obj} {cur : Array Value} {e : TypeId} {fr : Nat × Nat} (d : Array Int) (hb : w.heap[g]? = some (.cells cur e fr)) :
    (grow (putRow (Value.int .u64) (Sort.ahead w n) g 0 d) os).heap[g]? = some (.cells (putCells (Value.int .u64) 0 d cur) e fr) := by
  have hg : g < w.heap.size := (Array.getElem?_eq_some_iff.1 hb).1
  rw [heap_grow_old _ _ (by simpa using hg)]
  simp [putRow, mapBlock, Sort.ahead, Array.getElem?_modify, hb, onCells]
theorem grown64 {w : World} {g n : Nat} {os : Array Obj} (d : Array Int) : w.grownBy (grow (putRow (Value.int .u64) (Sort.ahead w n) g 0 d) os) (some g) := by
  refine ⟨rfl, rfl, rfl, by simp, fun k hk hne => ?_⟩
  rw [heap_grow_old _ _ (by simpa using hk)]
  have : g ≠ k := fun e => hne (by rw [e])
  simp [putRow, mapBlock, Sort.ahead, Array.getElem?_modify, this]
theorem take64 (cur : Array Value) (us ts : List Int) (h : ts.length ≤ us.length) (hu : us.length ≤ cur.size) (hp : us.take ts.length = ts) : (putCells (Value.int .u64) 0 us.toArray cur).toList.take ts.length = ts.map (Value.int .u64) := by
  apply List.ext_getElem?
  intro j
  by_cases hj : j < ts.length
  · rw [List.getElem?_take_of_lt hj, Array.getElem?_toList]
    have e : us[j]? = ts[j]? := by
      have := congrArg (fun l : List Int => l[j]?) hp
      simp only [List.getElem?_take_of_lt hj] at this
      exact this
    have e2 : us[j]'(by omega) = ts[j] := by
      rw [List.getElem?_eq_getElem (by omega), List.getElem?_eq_getElem hj] at e
      exact Option.some.inj e
    simp [putCells, hj, show j < cur.size by omega, show j < us.length by omega, e2]
  · rw [List.getElem?_take_eq_none (by omega), List.getElem?_eq_none (by simp; omega)]
/-- Behind the walk the same block owns what was put there, or its first part. -/
theorem owns64 {w : World} {base g cap n : Nat} {e : TypeId} {os : Array Obj} {cur : Array Value} {us ts : List Int} (hbase : base ≤ g) (hb : w.heap[g]? = some (.cells cur e (0, 0)))
    (h : ts.length ≤ us.length) (hp : us.take ts.length = ts) (h1 : us.length ≤ cap) (h2 : cap ≤ maxLen) (h3 : cur.size = cap * 1) :
    (grow (putRow (Value.int .u64) (Sort.ahead w n) g 0 us.toArray) os).ownsRow base e 1 (.slice (some ⟨g, 0, none⟩) ts.length cap) ts.length (ts.map (Value.int .u64)) :=
  ⟨by simp, .inr ⟨g, cap, _, rfl, hbase, heap64 _ hb, by omega, h2, by simp [putCells, h3], by rw [Nat.mul_one]; exact take64 cur us ts h (by omega) hp⟩⟩

theorem sort64 (W : World) (base : Nat) (v : Value) (zs : List Int) (h : W.ownsRow base 36 1 v zs.length (zs.map (Value.int .u64))) (hl : zs.length < 4611686018427387904) :
    Calls Tryz.prog 43 #[v] W fun e w' => e = .returned (.tuple #[]) ∧ w'.ownsRow base 36 1 v zs.length ((zs.mergeSort fun x y => decide (x ≤ y)).map (Value.int .u64)) ∧ W.grownBy w' v.ownBlock := by
  have h0 := h
  rcases h.2 with ⟨rfl, hz⟩ | ⟨g, cap, cur, rfl, hb, hg, hnc, hcm, hcs, htake⟩
  · obtain rfl : zs = [] := List.eq_nil_of_length_eq_zero hz
    refine (so_Sort_int_nil none 0 W).mono ?_
    rintro e w' ⟨rfl, rfl⟩
    exact ⟨rfl, by simpa using h0, ⟨rfl, rfl, rfl, Nat.le_refl _, fun _ _ _ => rfl⟩⟩
  · have hlt := (Array.getElem?_eq_some_iff.1 hg).1
    refine (so_slices_Sort_int g 0 cap zs W (holds64 hg (by rw [Nat.mul_one] at htake; exact htake)) hlt hl).mono ?_
    rintro e w' ⟨rfl, n, os, rfl⟩
    have hlen : (zs.mergeSort fun x y => decide (x ≤ y)).length = zs.length := List.length_mergeSort _
    have ho := owns64 (w := W) (base := base) (n := n) (os := os) (us := zs.mergeSort fun x y => decide (x ≤ y)) (ts := zs.mergeSort fun x y => decide (x ≤ y)) hb hg (Nat.le_refl _) (List.take_length) (by rw [hlen]; exact hnc) hcm hcs
    rw [hlen] at ho
    exact ⟨rfl, ho, grown64 _⟩
theorem compact_len (zs : List Int) : (Lib.compact zs).length ≤ zs.length := by
  unfold Lib.compact Lib.compactUpTo
  rw [List.length_map]
  refine Nat.le_trans (List.length_filter_le _ _) ?_
  simp
theorem compact64 (W : World) (base : Nat) (v : Value) (zs : List Int) (h : W.ownsRow base 36 1 v zs.length (zs.map (Value.int .u64))) (hl : zs.length < 4611686018427387904) :
    Calls Tryz.prog 44 #[v] W fun e w' => ∃ v', e = .returned v' ∧ v'.ownBlock = v.ownBlock ∧ w'.ownsRow base 36 1 v' (Lib.compact zs).length ((Lib.compact zs).map (Value.int .u64)) ∧ W.grownBy w' v.ownBlock := by
  have h0 := h
  rcases h.2 with ⟨rfl, hz⟩ | ⟨g, cap, cur, rfl, hb, hg, hnc, hcm, hcs, htake⟩
  · obtain rfl : zs = [] := List.eq_nil_of_length_eq_zero hz
    refine (so_Compact_empty none 0 W).mono ?_
    rintro e w' ⟨rfl, rfl⟩
    exact ⟨_, rfl, rfl, by simpa [Lib.compact, Lib.compactUpTo] using h0, ⟨rfl, rfl, rfl, Nat.le_refl _, fun _ _ _ => rfl⟩⟩
  · refine (so_Compact g 0 cap zs W (holds64 hg (by rw [Nat.mul_one] at htake; exact htake)) (by omega) hnc).mono ?_
    rintro e w' ⟨rfl, n, rfl⟩
    have hlen := compact_len zs
    have ho := owns64 (w := W) (base := base) (n := n) (os := #[]) (us := Lib.compact zs ++ List.replicate (zs.length - (Lib.compact zs).length) 0) (ts := Lib.compact zs) hb hg (by simp) (by simp) (by simp; omega) hcm hcs
    have hgr := grown64 (w := W) (g := g) (n := n) (os := #[]) (Lib.compact zs ++ List.replicate (zs.length - (Lib.compact zs).length) 0).toArray
    rw [grow_empty] at ho hgr
    exact ⟨_, rfl, rfl, ho, hgr⟩
end Go.Proofs.YtjfkgdfmkofbmaaGreatDoor

namespace Go.Proofs.YtjfkgdfmkofbmaaGreatDoor
set_option linter.unusedSimpArgs false
set_option linter.unusedVariables false
open Go.RowKit

def u64c (l : List Nat) : List Value := l.map (fun n : Nat => Value.int .u64 (n : Int))
def endsV (L : List PzV) : List Nat := L.flatMap (fun x => [x.at_, x.at_ + x.bytes.length])
theorem u64c_len (l : List Nat) : (u64c l).length = l.length := by simp [u64c]
theorem endsV_len (L : List PzV) : (endsV L).length = 2 * L.length := by
  unfold endsV
  induction L with
  | nil => rfl
  | cons a t ih => rw [List.flatMap_cons, List.length_append, ih, List.length_cons]; simp; omega
theorem endsV_snoc {L : List PzV} {k : Nat} {x : PzV} (h : L[k]? = some x) : endsV (L.take (k + 1)) = endsV (L.take k) ++ [x.at_, x.at_ + x.bytes.length] := by
  unfold endsV
  rw [List.take_add_one, h, List.flatMap_append]
  simp

/-- What stands while the places are gathered: the boxes of the two memories, the box of the places. -/
structure BothIn (w W : World) (va vb vt : Value) (E : List Nat) : Prop where
  bel : Below w.heap.size w W
  ra : W.heap[w.heap.size]? = some (.cells #[va] 24 (0, 0))
  rb : W.heap[w.heap.size + 1]? = some (.cells #[vb] 24 (0, 0))
  rt : W.heap[w.heap.size + 1 + 1]? = some (.cells #[vt] 123 (0, 0))
  own : W.ownsRow (w.heap.size + 3) 36 1 vt E.length (u64c E)
theorem BothIn.below {w W W' : World} {va vb vt : Value} {E : List Nat} (h : BothIn w W va vb vt E) (hb : Below W.heap.size W W') : BothIn w W' va vb vt E :=
  ⟨h.bel.trans (hb.mono h.bel.size), (hb.block _ (Array.getElem?_eq_some_iff.1 h.ra).1).trans h.ra, (hb.block _ (Array.getElem?_eq_some_iff.1 h.rb).1).trans h.rb, (hb.block _ (Array.getElem?_eq_some_iff.1 h.rt).1).trans h.rt, ownsRow_below h.own hb⟩
theorem BothIn.size {w W : World} {va vb vt : Value} {E : List Nat} (h : BothIn w W va vb vt E) : w.heap.size + 3 ≤ W.heap.size := by
  have := (Array.getElem?_eq_some_iff.1 h.rt).1; omega
/-- Behind the append and the store. -/
theorem BothIn.put {w W W2 : World} {va vb vt vt' : Value} {E E' : List Nat} (h : BothIn w W va vb vt E) (hg : Grew W W2 vt vt') (ho : W2.ownsRow (w.heap.size + 3) 36 1 vt' E'.length (u64c E')) : BothIn w (W2.setCell ⟨w.heap.size + 1 + 1, 0, none⟩ vt') va vb vt' E' := by
  have hz := h.size
  have hne : ∀ k, k < w.heap.size + 3 → vt.ownBlock ≠ some k := fun k hk e => by have := (World.ownsRow.lt h.own k e).1; omega
  have hk : ∀ k, k < w.heap.size + 3 → k ≠ w.heap.size + 1 + 1 → (W2.setCell ⟨w.heap.size + 1 + 1, 0, none⟩ vt').heap[k]? = W.heap[k]? := fun k hk hn => by
    rw [heap_setCell_other _ _ _ _ hn]
    exact hg.block (by omega) (hne k hk)
  have hs : (W2.setCell ⟨w.heap.size + 1 + 1, 0, none⟩ vt').heap.size = W2.heap.size := by simp [World.setCell]
  have hrt2 : W2.heap[w.heap.size + 1 + 1]? = some (.cells #[vt] 123 (0, 0)) := (hg.block (by omega) (hne _ (by omega))).trans h.rt
  refine ⟨⟨hg.by_.os.trans h.bel.os, hg.by_.tape.trans h.bel.tape, hg.by_.output.trans h.bel.output, by rw [hs]; exact Nat.le_trans h.bel.size hg.by_.size, fun k hk' => (hk k (by omega) (by omega)).trans (h.bel.block k hk')⟩, (hk _ (by omega) (by omega)).trans h.ra, (hk _ (by omega) (by omega)).trans h.rb, ?_, ?_⟩
  · exact heap_setCell_same W2 _ 0 #[vt] _ vt' hrt2
  · exact owns_of_block ho (fun k hk2 => heap_setCell_other _ _ _ _ (fun e => by have := (World.ownsRow.lt ho k hk2).1; have e' : k = w.heap.size + 1 + 1 := e; omega))
/-- While the places are gathered: all else stays. -/
structure Gat (w w2 W : World) (vt : Value) (E : List Nat) : Prop where
  os : W.os = w2.os
  tape : W.tape = w2.tape
  output : W.output = w2.output
  size : w2.heap.size ≤ W.heap.size
  keep : ∀ k, k < w2.heap.size → k ≠ w.heap.size + 1 + 1 → W.heap[k]? = w2.heap[k]?
  box : W.heap[w.heap.size + 1 + 1]? = some (.cells #[vt] 123 (0, 0))
  own : W.ownsRow w2.heap.size 36 1 vt E.length (u64c E)
  lt : w.heap.size + 3 ≤ w2.heap.size
theorem Gat.below {w w2 W W' : World} {vt : Value} {E : List Nat} (h : Gat w w2 W vt E) (hb : Below W.heap.size W W') : Gat w w2 W' vt E :=
  ⟨hb.os.trans h.os, hb.tape.trans h.tape, hb.output.trans h.output, Nat.le_trans h.size hb.size, fun k hk hn => (hb.block k (Nat.lt_of_lt_of_le hk h.size)).trans (h.keep k hk hn), (hb.block _ (Array.getElem?_eq_some_iff.1 h.box).1).trans h.box, ownsRow_below h.own hb, h.lt⟩
theorem Gat.put {w w2 W W3 : World} {vt vt' : Value} {E E' : List Nat} (h : Gat w w2 W vt E) (hg : Grew W W3 vt vt') (ho : W3.ownsRow w2.heap.size 36 1 vt' E'.length (u64c E')) : Gat w w2 (W3.setCell ⟨w.heap.size + 1 + 1, 0, none⟩ vt') vt' E' := by
  have hlt := h.lt
  have hsz := h.size
  have hne : ∀ k, k < w2.heap.size → vt.ownBlock ≠ some k := fun k hk e => by have := (World.ownsRow.lt h.own k e).1; omega
  have hs : (W3.setCell ⟨w.heap.size + 1 + 1, 0, none⟩ vt').heap.size = W3.heap.size := by simp [World.setCell]
  refine ⟨hg.by_.os.trans h.os, hg.by_.tape.trans h.tape, hg.by_.output.trans h.output, by rw [hs]; exact Nat.le_trans h.size hg.by_.size, fun k hk hn => ?_, ?_, ?_, h.lt⟩
  · rw [heap_setCell_other _ _ _ _ hn]
    exact (hg.block (by omega) (hne k hk)).trans (h.keep k hk hn)
  · exact heap_setCell_same W3 _ 0 #[vt] _ vt' ((hg.block (by omega) (hne _ (by omega))).trans h.box)
  · exact owns_of_block ho (fun k hk2 => heap_setCell_other _ _ _ _ (fun e => by have := (World.ownsRow.lt ho k hk2).1; have e' : k = w.heap.size + 1 + 1 := e; omega))
/-- The pieces that are gone through read on. -/
theorem Gat.pieces {w w1 w2 W : World} {vt vc : Value} {E : List Nat} {L : List PzV} (h : Gat w w2 W vt E) (hw : Below w.heap.size w w2) (hv : w2.ownsRow w1.heap.size 74 3 vc L.length (L.flatMap PzV.cells)) (h1 : w.heap.size + 3 ≤ w1.heap.size)
    (hb : ∀ x ∈ L, BS w (.slice x.p x.bytes.length x.cap) x.bytes) (ha : ∀ x ∈ L, x.at_ < 2 ^ 64) : PzsAt W vc L := by
  have hbl : Below w.heap.size w W := ⟨h.os.trans hw.os, h.tape.trans hw.tape, h.output.trans hw.output, Nat.le_trans hw.size h.size, fun k hk => (h.keep k (Nat.lt_of_lt_of_le hk hw.size) (by omega)).trans (hw.block k hk)⟩
  exact ⟨rows_pz (owns_of_block hv (fun k hk => h.keep k (World.ownsRow.lt hv k hk).2 (by have := (World.ownsRow.lt hv k hk).1; omega))), fun x hx => (hb x hx).below hbl, ha⟩

theorem intsZ_len (E : List Nat) : (intsZ E).length = E.length := by simp [intsZ]
theorem u64c_ints (E : List Nat) : u64c E = (intsZ E).map (Value.int .u64) := by simp [u64c, intsZ]
theorem Gat.sorted {w w2 W W' : World} {vt : Value} {E E' : List Nat} (h : Gat w w2 W vt E) (hb : W.grownBy W' vt.ownBlock) (ho : W'.ownsRow w2.heap.size 36 1 vt E'.length (u64c E')) : Gat w w2 W' vt E' := by
  obtain ⟨h1, h2, h3, h4, h5⟩ := hb
  have hlt := h.lt
  have hsz := h.size
  have hne : ∀ k, k < w2.heap.size → vt.ownBlock ≠ some k := fun k hk e => by have := (World.ownsRow.lt h.own k e).1; omega
  exact ⟨h1.trans h.os, h2.trans h.tape, h3.trans h.output, Nat.le_trans h.size h4, fun k hk hn => (h5 k (by omega) (hne k hk).symm).trans (h.keep k hk hn), (h5 _ (by omega) (hne _ (by omega)).symm).trans h.box, ho, h.lt⟩
theorem Gat.store {w w2 W W' : World} {vt vt' : Value} {E E' : List Nat} (h : Gat w w2 W vt E) (hb : W.grownBy W' vt.ownBlock) (ho : W'.ownsRow w2.heap.size 36 1 vt' E'.length (u64c E')) : Gat w w2 (W'.setCell ⟨w.heap.size + 1 + 1, 0, none⟩ vt') vt' E' := by
  obtain ⟨h1, h2, h3, h4, h5⟩ := hb
  have hlt := h.lt
  have hsz := h.size
  have hne : ∀ k, k < w2.heap.size → vt.ownBlock ≠ some k := fun k hk e => by have := (World.ownsRow.lt h.own k e).1; omega
  have hs : (W'.setCell ⟨w.heap.size + 1 + 1, 0, none⟩ vt').heap.size = W'.heap.size := by simp [World.setCell]
  refine ⟨h1.trans h.os, h2.trans h.tape, h3.trans h.output, by rw [hs]; exact Nat.le_trans h.size h4, fun k hk hn => ?_, ?_, ?_, h.lt⟩
  · rw [heap_setCell_other _ _ _ _ hn]
    exact (h5 k (by omega) (hne k hk).symm).trans (h.keep k hk hn)
  · exact heap_setCell_same W' _ 0 #[vt] _ vt' ((h5 _ (by omega) (hne _ (by omega)).symm).trans h.box)
  · exact owns_of_block ho (fun k hk2 => heap_setCell_other _ _ _ _ (fun e => by have := (World.ownsRow.lt ho k hk2).1; have e' : k = w.heap.size + 1 + 1 := e; omega))
theorem Gat.bothIn {w w2 W : World} {va vb vt : Value} {E : List Nat} (h : Gat w w2 W vt E) (hw : Below w.heap.size w w2) (ha : w2.heap[w.heap.size]? = some (.cells #[va] 24 (0, 0))) (hb : w2.heap[w.heap.size + 1]? = some (.cells #[vb] 24 (0, 0))) : BothIn w W va vb vt E := by
  have hlt := h.lt
  exact ⟨⟨h.os.trans hw.os, h.tape.trans hw.tape, h.output.trans hw.output, Nat.le_trans hw.size h.size, fun k hk => (h.keep k (Nat.lt_of_lt_of_le hk hw.size) (by omega)).trans (hw.block k hk)⟩, (h.keep _ (by omega) (by omega)).trans ha, (h.keep _ (by omega) (by omega)).trans hb, h.box, ownsRow_base h.own h.lt⟩
def sortedN (E : List Nat) : List Nat := ((intsZ E).mergeSort fun x y => decide (x ≤ y)).map Int.toNat
theorem sortedN_I (E : List Nat) : intsZ (sortedN E) = (intsZ E).mergeSort fun x y => decide (x ≤ y) := by
  unfold sortedN
  show List.map _ (List.map _ _) = _
  rw [List.map_map]
  refine (List.map_congr_left fun x hx => ?_).trans (List.map_id _)
  have hx2 := (List.mergeSort_perm _ _).mem_iff.1 hx
  unfold intsZ at hx2
  obtain ⟨n, -, rfl⟩ := List.mem_map.1 hx2
  simp
theorem sortedN_len (E : List Nat) : (sortedN E).length = E.length := by simp [sortedN, intsZ_len]
theorem tidyN_of (E : List Nat) : intsZ (tidyN E) = Lib.compact (intsZ (sortedN E)) := by rw [tidyN_I, sortedN_I]; rfl
theorem endsV_Z (L : List PzV) : endsV L = endsZ (L.map PzV.m) := by
  unfold endsV endsZ
  rw [List.flatMap_map]
  rfl

set_option maxHeartbeats 2000000 in
set_option maxRecDepth 8000 in
theorem bd_both (w : World) (va vb : Value) (A B : List PzV) (hA : PzsAt w va A) (hB : PzsAt w vb B) (hla : A.length ≤ 20000) (hlb : B.length ≤ 20000) (hsa : Srt 0 (A.map PzV.m)) (hsb : Srt 0 (B.map PzV.m)) :
    Calls Tryz.prog 23 #[va, vb] w fun e w' => e = .returned (.func (.func 45) #[] #[.pointer (some ⟨w.heap.size + 1 + 1, 0, none⟩), .pointer (some ⟨w.heap.size, 0, none⟩), .pointer (some ⟨w.heap.size + 1, 0, none⟩)]) ∧ ∃ vt bs, BothIn w w' va vb vt bs ∧ Bnds bs (A.map PzV.m) (B.map PzV.m) := by
  obtain ⟨pa, ca, rfl⟩ := RowsAt.form hA.rows
  obtain ⟨pb, cb, rfl⟩ := RowsAt.form hB.rows
  obtain ⟨va, hva⟩ : ∃ v, v = Value.slice pa A.length ca := ⟨_, rfl⟩
  obtain ⟨vb, hvb⟩ : ∃ v, v = Value.slice pb B.length cb := ⟨_, rfl⟩
  rw [← hva] at hA
  rw [← hvb] at hB
  rw [← hva, ← hvb]
  obtain ⟨hb3, q1, q2, q3⟩ := alloc3 w (.cells #[va] 24) (.cells #[vb] 24) (.cells #[.slice none 0 0] 123)
  obtain ⟨W1, hW1⟩ : ∃ W1, W1 = ((w.alloc (.cells #[va] 24)).alloc (.cells #[vb] 24)).alloc (.cells #[.slice none 0 0] 123) := ⟨_, rfl⟩
  rw [← hW1] at hb3 q1 q2 q3
  have hi1 : BothIn w W1 va vb (.slice none 0 0) [] := ⟨hb3, q1, q2, q3, World.ownsRow_nil _ _ _ _⟩
  have x0 := cell_of_row _ _ 0 _ _ _ q1
  have x1 := cell_of_row _ _ 0 _ _ _ q2
  have x2 := cell_of_row _ _ 0 _ _ _ q3
  have HW := hid hW1.symm
  have H := hid (And.intro hA (And.intro hB (And.intro hla (And.intro hlb (And.intro hsa hsb)))))
  have H1 := hid hi1
  rw [hva, hvb] at HW
  rw [hva] at x0
  rw [hvb] at x1
  have HV := hid (And.intro hva hvb)
  rw [hva, hvb]
  clear hb3 q1 q2 q3 hW1 hA hB hsa hsb hi1 hva hvb
  go_enter Tryz.func23, Tryz.ntmps23
  go_upto_region 2 with fail
  rw [HW.out]
  go_wp2_with fail
  have hal : Below W1.heap.size W1 (W1.alloc (.cells #[.slice pa A.length ca, .slice pb B.length cb] 24)) := (Below.refl _ _).alloc (Nat.le_refl _) _
  have hbw : Below w.heap.size w (W1.alloc (.cells #[.slice pa A.length ca, .slice pb B.length cb] 24)) := H1.out.bel.trans (hal.mono H1.out.bel.size)
  refine (bd_concat _ W1.heap.size _ _ A B (heap_alloc_new W1 _) (by have := (H.out.1.below hbw).rows; rw [HV.out.1] at this; exact this) (by have := (H.out.2.1.below hbw).rows; rw [HV.out.2] at this; exact this) hla hlb).mono ?_
  rintro e w2 ⟨vc, rfl, hoc, hb2⟩
  have hw2 : Below w.heap.size w w2 := hbw.trans (hb2.mono hbw.size)
  have hg0 : Gat w w2 w2 (.slice none 0 0) [] := ⟨rfl, rfl, rfl, Nat.le_refl _, fun _ _ _ => rfl, (hb2.block _ (by have := H1.out.size; simp; omega)).trans ((hal.block _ (Array.getElem?_eq_some_iff.1 H1.out.rt).1).trans H1.out.rt), World.ownsRow_nil _ _ _ _, by have := H1.out.size; have := hb2.size; simp at this; omega⟩
  obtain ⟨L, hL⟩ : ∃ L, L = A ++ B := ⟨_, rfl⟩
  rw [← hL] at hoc
  obtain ⟨pc, nc, cc, hvc⟩ := own_form hoc
  have hP : ∀ (W : World) (vt : Value) (E : List Nat), Gat w w2 W vt E → PzsAt W vc L := fun W vt E h => h.pieces hw2 hoc (by have := H1.out.size; simp; omega) (fun x hx => by rw [hL] at hx; rcases List.mem_append.1 hx with hx | hx; exact H.out.1.bytes x hx; exact H.out.2.1.bytes x hx) (fun x hx => by rw [hL] at hx; rcases List.mem_append.1 hx with hx | hx; exact H.out.1.ats x hx; exact H.out.2.1.ats x hx)
  have hLl : L.length ≤ 40000 := by rw [hL, List.length_append]; omega
  have hnl : L.length = nc := by have := RowsAt.len' (show RowsAt PzV.cells 3 w2 (.slice pc nc cc) L from by have := (hP _ _ _ hg0).rows; rwa [hvc] at this); exact this
  subst hnl
  subst hvc
  have hmx : ∀ x ∈ L, x.at_ + x.bytes.length < 2 ^ 64 := fun x hx => by
    have h1 : x.m.end_ ≤ MAXA := by
      rw [hL] at hx
      rcases List.mem_append.1 hx with hx | hx
      · exact (H.out.2.2.2.2.1.at_le x.m (List.mem_map_of_mem hx)).2.1
      · exact (H.out.2.2.2.2.2.at_le x.m (List.mem_map_of_mem hx)).2.1
    have e : x.m.end_ = x.at_ + x.bytes.length := rfl
    rw [e] at h1
    unfold MAXA at h1
    omega
  have HMX := hid hmx
  clear hmx
  have HP := hid (And.intro hP (And.intro hg0 (And.intro hL (And.intro hw2 hLl))))
  have hba := (hb2.block _ (by have := H1.out.size; simp; omega)).trans ((hal.block _ (Array.getElem?_eq_some_iff.1 H1.out.ra).1).trans H1.out.ra)
  have hbb := (hb2.block _ (by have := H1.out.size; simp; omega)).trans ((hal.block _ (Array.getElem?_eq_some_iff.1 H1.out.rb).1).trans H1.out.rb)
  rw [HV.out.1] at hba
  rw [HV.out.2] at hbb
  have HR := hid (And.intro hba hbb)
  clear hal hbw hoc hb2 hw2 hg0 hL hP x0 x1 x2 hba hbb
  obtain ⟨iu, hiu, huz, hus, hub⟩ := info_parts infoU1
  have HU := hid (And.intro hiu (And.intro huz (And.intro hus hub)))
  clear hiu huz hus hub
  go_wp2_with fail
  go_loopw [13] (fun vi wr => ∃ (k : Nat) (vt : Value), k ≤ L.length ∧ vi = .int .i64 (k : Int) ∧ Gat w w2 wr vt (endsV (L.take k))) (fun vi _ => L.length - (intOf vi).toNat)
  case atStart => exact ⟨0, _, Nat.zero_le _, rfl, HP.out.2.1⟩
  case round =>
    obtain ⟨k, vt, hk, rfl, hg⟩ := hrel
    have hll := HP.out.2.2.2.2
    by_cases hlt : k < L.length
    · obtain ⟨x, hx⟩ : ∃ x, L[k]? = some x := ⟨_, List.getElem?_eq_getElem hlt⟩
      have hP := HP.out.1 wr vt _ hg
      obtain ⟨g, off, hpc, y0, y1, y2⟩ := hP.cell hx
      subst hpc
      have hsh := hP.short (List.mem_of_getElem? hx)
      have hE := endsV_snoc hx
      have hel := endsV_len (L.take k)
      rw [List.length_take] at hel
      obtain ⟨x0, hx0⟩ : ∃ y, y = x := ⟨_, rfl⟩
      have hxm0 : x0 ∈ L := by rw [hx0]; exact List.mem_of_getElem? hx
      obtain ⟨xa, xp, xs, xc, xb⟩ := x
      subst hx0
      dsimp only at y0 y1 y2 hsh hE
      obtain ⟨pt, nt, ct, hvt⟩ := own_form hg.own
      subst hvt
      have hwk : IntKind.i64.wrap ((k : Int) + 1) = ((k + 1 : Nat) : Int) := (IntWalk.i64_in _ (by omega)).trans (by omega)
      have hal : Below wr.heap.size wr (wr.alloc (.cells #[.int .u64 (xa : Int), .int .i64 xp, .slice xs xb.length xc] 74)) := (Below.refl _ _).alloc (Nat.le_refl _) _
      have hrw := heap_alloc_new wr (.cells #[.int .u64 (xa : Int), .int .i64 xp, .slice xs xb.length xc] 74)
      have HG := hid (And.intro (hg.below hal) (And.intro hrw (And.intro hE (And.intro hel hsh))))
      clear hg hP hx hE hel hsh hal hrw
      have hmax : xa + xb.length < 2 ^ 64 := HMX.out ⟨xa, xp, xs, xc, xb⟩ hxm0
      have hEnd := hid (fun W => bd_end W xa xp xs xb.length xc hmax)
      obtain ⟨E, hEe⟩ : ∃ E, E = xa + xb.length := ⟨_, rfl⟩
      rw [← hEe] at hEnd HG
      have HEe := hid hEe
      clear hEe
      go_upto_region 5 with fail
      obtain ⟨W4, hW4⟩ : ∃ W4, W4 = wr.alloc (.cells #[.int .u64 (xa : Int), .int .i64 xp, .slice xs xb.length xc] 74) := ⟨_, rfl⟩
      rw [← hW4] at HG ⊢
      have HW4 := hid hW4
      clear hW4 y0 y1 y2 hmax
      have z0 : W4.drew.cell? ⟨wr.heap.size, 0, none⟩ = some (.int .u64 (xa : Int)) := cell_of_row _ _ 0 _ _ _ HG.out.2.1
      have z1 : W4.drew.cell? ⟨wr.heap.size, 1, none⟩ = some (.int .i64 xp) := cell_of_row _ _ 1 _ _ _ HG.out.2.1
      have z2 : W4.drew.cell? ⟨wr.heap.size, 2, none⟩ = some (.slice xs xb.length xc) := cell_of_row _ _ 2 _ _ _ HG.out.2.1
      have zt : W4.drew.cell? ⟨w.heap.size + 1 + 1, 0, none⟩ = some (.slice pt nt ct) := cell_of_row _ _ 0 _ _ _ HG.out.1.box
      go_region_law (first
        | (go_simp; go_at_call 36; (with_reducible refine (hEnd.out _).mono ?_); rintro e w5 ⟨rfl, hb5⟩; have hb5 := (below_drewP W4).trans hb5; have G5 := HG.out.1.below hb5; have r5 := (hb5.block _ (Array.getElem?_eq_some_iff.1 HG.out.2.1).1).trans HG.out.2.1; have z0 := cell_of_row _ _ 0 _ _ _ r5; have z1 := cell_of_row _ _ 1 _ _ _ r5; have z2 := cell_of_row _ _ 2 _ _ _ r5; have zt := cell_of_row _ _ 0 _ _ _ G5.box; have zta := fun o : Obj => below_cell' ((Below.refl w5.heap.size w5).alloc (Nat.le_refl _) o) (Array.getElem?_eq_some_iff.1 G5.box).1 zt; clear hb5 r5)
        | (refine step_grewB _ rfl _ _ _ _ rfl w2.heap.size 36 iu _ 1 8 Tryz.underlying123 HU.out.1 HU.out.2.1 HU.out.2.2.1 HU.out.2.2.2 rfl (.slice pt nt ct) (endsV (L.take k)).length (u64c (endsV (L.take k))) rfl (ownsRow_below G5.own ((Below.refl _ _).alloc (Nat.le_refl _) _)) _ 2 [.int .u64 (xa : Int), .int .u64 (E : Int)] rfl (Src.laid _ Tryz.underlying123 [.int .u64 (xa : Int), .int .u64 (E : Int)] 2 rfl (by simp [Value.oneCell']) (0, 0) rfl) (Nat.le_trans (show (endsV (L.take k)).length + 2 ≤ 90000 by have := HG.out.2.2.2.1; omega) (by decide)) (by have := HG.out.2.2.2.1; omega) (by have := G5.size; simp; omega) ?_; intro v6 W6 ho6 hg6; have hg6 := Grew.under ((Below.refl _ _).alloc (Nat.le_refl _) _) hg6; obtain ⟨p6, n6, c6, hv6⟩ := own_form ho6; subst hv6; have hbl := hg6.block (Array.getElem?_eq_some_iff.1 G5.box).1 (fun e => by have := (World.ownsRow.lt G5.own _ e).1; have := G5.lt; omega); have x6 := cell_of_row _ _ 0 _ _ _ (hbl.trans G5.box); have f6 := frozen_of_row W6 (w.heap.size + 1 + 1) 0 _ _ (hbl.trans G5.box); have H6 := hid (And.intro G5 (And.intro hg6 ho6)); clear hg6 ho6 hbl)
        | fail "no call")
      all_goals
        go_wp2_with fail
        have hz := H6.out.1.put (E' := endsV (L.take (k + 1))) H6.out.2.1 (by rw [HG.out.2.2.1, List.length_append]; unfold u64c; rw [List.map_append]; exact H6.out.2.2)
        exact ⟨⟨k + 1, _, by omega, by go_num, hz⟩, by simp [intOf]; omega⟩
    · obtain rfl : k = L.length := by omega
      rw [List.take_length] at hg
      obtain ⟨pt, nt, ct, hvt⟩ := own_form hg.own
      subst hvt
      have zt : wr.cell? ⟨w.heap.size + 1 + 1, 0, none⟩ = some (.slice pt nt ct) := cell_of_row _ _ 0 _ _ _ hg.box
      have hel := endsV_len L
      have hS := hid (And.intro (sort64 wr w2.heap.size _ (intsZ (endsV L)) (by rw [intsZ_len, ← u64c_ints]; exact hg.own) (by rw [intsZ_len]; omega)) (And.intro hg hel))
      clear hg
      go_wp2_with (first
        | (go_at_call 43; refine hS.out.1.mono ?_; rintro e w7 ⟨rfl, ho7, hb7⟩; have G7 := hS.out.2.1.sorted (E' := sortedN (endsV L)) hb7 (by rw [u64c_ints, sortedN_I, sortedN_len]; rw [intsZ_len] at ho7; exact ho7); have zt := cell_of_row _ _ 0 _ _ _ G7.box; have hC := compact64 w7 w2.heap.size _ (intsZ (sortedN (endsV L))) (by rw [intsZ_len, ← u64c_ints]; exact G7.own) (by rw [intsZ_len, sortedN_len]; omega); have H7 := hid (And.intro G7 hC); clear ho7 hb7 G7 hC)
        | (go_at_call 44; refine H7.out.2.mono ?_; rintro e w8 ⟨v8, rfl, hv8, ho8, hb8⟩; rw [← tidyN_of, intsZ_len, ← u64c_ints] at ho8; obtain ⟨p8, n8, c8, hv8'⟩ := own_form ho8; subst hv8'; obtain ⟨q1, q2, q3, q4, q5⟩ := hb8; have hne8 : Value.ownBlock (.slice pt nt ct) ≠ some (w.heap.size + 1 + 1) := (fun e => by have := (World.ownsRow.lt H7.out.1.own _ e).1; have := H7.out.1.lt; omega); have b8 := (q5 _ (by have := H7.out.1.lt; have := H7.out.1.size; omega) hne8.symm).trans H7.out.1.box; have x8 := cell_of_row _ _ 0 _ _ _ b8; have f8 := frozen_of_row w8 (w.heap.size + 1 + 1) 0 _ _ b8; have H8 := hid (And.intro (show _ ∧ _ from ⟨b8, ho8⟩) (show World.grownBy w7 w8 _ from ⟨q1, q2, q3, q4, q5⟩)); clear b8 ho8 q1 q2 q3 q4 q5 hne8)
        | fail "no call")
      go_ret
      have hz := Gat.store H7.out.1 H8.out.2 H8.out.1.2
      have hb := tidy_bnds (A.map PzV.m) (B.map PzV.m)
      rw [← List.map_append, ← endsV_Z, ← HP.out.2.2.1] at hb
      exact ⟨rfl, _, tidyN (endsV L), hz.bothIn HP.out.2.2.2.1 HR.out.1 HR.out.2, hb⟩
end Go.Proofs.YtjfkgdfmkofbmaaGreatDoor
