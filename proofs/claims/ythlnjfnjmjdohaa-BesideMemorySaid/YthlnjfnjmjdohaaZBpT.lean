/- A row of numbers of the call's own: sorted, each kept once. -/
import Derived.Test.YthlnjfnjmjdohaaZBpJ
import Derived.Test.YthlnjfnjmjdohaaZSo9
import Derived.Test.YthlnjfnjmjdohaaZBdE
import Derived.Sort.OwnSortedInts
namespace Go.Proofs.Ythlnjfnjmjdohaa
set_option linter.unusedSimpArgs false
set_option linter.unusedVariables false
open Go.RowKit Go.Sort

theorem holds64 {w : World} {g : Nat} {cur : Array Value} {e : TypeId} {ss : List Int} (hb : w.heap[g]? = some (.cells cur e (0, 0))) (ht : cur.toList.take ss.length = ss.map (Value.int .u64)) : Holds (Value.int .u64) w g 0 ss.toArray := by
  intro j hj
  have hj' : j < ss.length := by simpa using hj
  refine ⟨?_, by simp [World.frozen?, hb]⟩
  have h1 : (cur.toList.take ss.length)[j]? = (ss.map (Value.int .u64))[j]? := by rw [ht]
  rw [List.getElem?_take_of_lt hj'] at h1
  simp only [World.cell?, hb, Nat.zero_add]
  simp only [Option.isSome_none, Bool.false_eq_true, if_false]
  rw [← Array.getElem?_toList, h1]
  simp [hj']
theorem heap64 {w : World} {g n : Nat} {os : Array Obj} {cur : Array Value} {e : TypeId} {fr : Nat × Nat} (d : Array Int) (hb : w.heap[g]? = some (.cells cur e fr)) :
    (grow (putRow (Value.int .u64) (Sort.ahead w n) g 0 d) os).heap[g]? = some (.cells (putCells (Value.int .u64) 0 d cur) e fr) := by
  have hg : g < w.heap.size := (Array.getElem?_eq_some_iff.1 hb).1
  rw [heap_grow_old _ _ (by simpa using hg)]
  simp [putRow, mapBlock, Sort.ahead, Array.getElem?_modify, hb, onCells]
theorem grown64 {w : World} {g n : Nat} {os : Array Obj} (d : Array Int) : w.grownBy (grow (putRow (Value.int .u64) (Sort.ahead w n) g 0 d) os) (some g) := by
  refine ⟨rfl, rfl, rfl, by simp, fun k hk hne => ?_⟩
  rw [heap_grow_old _ _ (by simpa using hk)]
  have : g ≠ k := fun e => hne (by rw [e])
  simp [putRow, mapBlock, Sort.ahead, Array.getElem?_modify, this]
theorem take64 (cur : Array Value) (us ts : List Int) (h : ts.length ≤ us.length) (hu : us.length ≤ cur.size) (hp : us.take ts.length = ts) : (putCells (Value.int .u64) 0 us.toArray cur).toList.take ts.length = ts.map (Value.int .u64) := by
  apply List.ext_getElem?
  intro j
  by_cases hj : j < ts.length
  · rw [List.getElem?_take_of_lt hj, Array.getElem?_toList]
    have e : us[j]? = ts[j]? := by
      have := congrArg (fun l : List Int => l[j]?) hp
      simp only [List.getElem?_take_of_lt hj] at this
      exact this
    have e2 : us[j]'(by omega) = ts[j] := by
      rw [List.getElem?_eq_getElem (by omega), List.getElem?_eq_getElem hj] at e
      exact Option.some.inj e
    simp [putCells, hj, show j < cur.size by omega, show j < us.length by omega, e2]
  · rw [List.getElem?_take_eq_none (by omega), List.getElem?_eq_none (by simp; omega)]
/-- Behind the walk the same block owns what was put there, or its first part. -/
theorem owns64 {w : World} {base g cap n : Nat} {e : TypeId} {os : Array Obj} {cur : Array Value} {us ts : List Int} (hbase : base ≤ g) (hb : w.heap[g]? = some (.cells cur e (0, 0)))
    (h : ts.length ≤ us.length) (hp : us.take ts.length = ts) (h1 : us.length ≤ cap) (h2 : cap ≤ maxLen) (h3 : cur.size = cap * 1) :
    (grow (putRow (Value.int .u64) (Sort.ahead w n) g 0 us.toArray) os).ownsRow base e 1 (.slice (some ⟨g, 0, none⟩) ts.length cap) ts.length (ts.map (Value.int .u64)) :=
  ⟨by simp, .inr ⟨g, cap, _, rfl, hbase, heap64 _ hb, by omega, h2, by simp [putCells, h3], by rw [Nat.mul_one]; exact take64 cur us ts h (by omega) hp⟩⟩

theorem sort64 (W : World) (base : Nat) (v : Value) (zs : List Int) (h : W.ownsRow base 42 1 v zs.length (zs.map (Value.int .u64))) (hl : zs.length < 4611686018427387904) :
    Calls Try.prog 38 #[v] W fun e w' => e = .returned (.tuple #[]) ∧ w'.ownsRow base 42 1 v zs.length ((zs.mergeSort fun x y => decide (x ≤ y)).map (Value.int .u64)) ∧ W.grownBy w' v.ownBlock := by
  have h0 := h
  rcases h.2 with ⟨rfl, hz⟩ | ⟨g, cap, cur, rfl, hb, hg, hnc, hcm, hcs, htake⟩
  · obtain rfl : zs = [] := List.eq_nil_of_length_eq_zero hz
    refine (so_Sort_int_nil none 0 W).mono ?_
    rintro e w' ⟨rfl, rfl⟩
    exact ⟨rfl, by simpa using h0, ⟨rfl, rfl, rfl, Nat.le_refl _, fun _ _ _ => rfl⟩⟩
  · have hlt := (Array.getElem?_eq_some_iff.1 hg).1
    refine (so_slices_Sort_int g 0 cap zs W (holds64 hg (by rw [Nat.mul_one] at htake; exact htake)) hlt hl).mono ?_
    rintro e w' ⟨rfl, n, os, rfl⟩
    have hlen : (zs.mergeSort fun x y => decide (x ≤ y)).length = zs.length := List.length_mergeSort _
    have ho := owns64 (w := W) (base := base) (n := n) (os := os) (us := zs.mergeSort fun x y => decide (x ≤ y)) (ts := zs.mergeSort fun x y => decide (x ≤ y)) hb hg (Nat.le_refl _) (List.take_length) (by rw [hlen]; exact hnc) hcm hcs
    rw [hlen] at ho
    exact ⟨rfl, ho, grown64 _⟩
theorem compact_len (zs : List Int) : (Lib.compact zs).length ≤ zs.length := by
  unfold Lib.compact Lib.compactUpTo
  rw [List.length_map]
  refine Nat.le_trans (List.length_filter_le _ _) ?_
  simp
theorem compact64 (W : World) (base : Nat) (v : Value) (zs : List Int) (h : W.ownsRow base 42 1 v zs.length (zs.map (Value.int .u64))) (hl : zs.length < 4611686018427387904) :
    Calls Try.prog 39 #[v] W fun e w' => ∃ v', e = .returned v' ∧ v'.ownBlock = v.ownBlock ∧ w'.ownsRow base 42 1 v' (Lib.compact zs).length ((Lib.compact zs).map (Value.int .u64)) ∧ W.grownBy w' v.ownBlock := by
  have h0 := h
  rcases h.2 with ⟨rfl, hz⟩ | ⟨g, cap, cur, rfl, hb, hg, hnc, hcm, hcs, htake⟩
  · obtain rfl : zs = [] := List.eq_nil_of_length_eq_zero hz
    refine (so_Compact_empty none 0 W).mono ?_
    rintro e w' ⟨rfl, rfl⟩
    exact ⟨_, rfl, rfl, by simpa [Lib.compact, Lib.compactUpTo] using h0, ⟨rfl, rfl, rfl, Nat.le_refl _, fun _ _ _ => rfl⟩⟩
  · refine (so_Compact g 0 cap zs W (holds64 hg (by rw [Nat.mul_one] at htake; exact htake)) (by omega) hnc).mono ?_
    rintro e w' ⟨rfl, n, rfl⟩
    have hlen := compact_len zs
    have ho := owns64 (w := W) (base := base) (n := n) (os := #[]) (us := Lib.compact zs ++ List.replicate (zs.length - (Lib.compact zs).length) 0) (ts := Lib.compact zs) hb hg (by simp) (by simp) (by simp; omega) hcm hcs
    have hgr := grown64 (w := W) (g := g) (n := n) (os := #[]) (Lib.compact zs ++ List.replicate (zs.length - (Lib.compact zs).length) 0).toArray
    rw [grow_empty] at ho hgr
    exact ⟨_, rfl, rfl, ho, hgr⟩
end Go.Proofs.Ythlnjfnjmjdohaa
