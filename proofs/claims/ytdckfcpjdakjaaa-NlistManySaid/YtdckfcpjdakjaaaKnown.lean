/- The walk of layer 10's law: known. -/
import Derived.Test.YtdckfcpjdakjaaaSyms
namespace Go.Proofs.Ytdckfcpjdakjaaa
set_option linter.unusedSimpArgs false
set_option linter.unusedVariables false
open Go.RowKit Go.Maps

/-- A slice of bytes that the call lays. -/
theorem BS.laid (w : World) (l : List UInt8) (t : TypeId) (hl : l.length ≤ 140737488355328) : BS (w.alloc (.cells (u8s l).toArray t)) (.slice (some ⟨w.heap.size, 0, none⟩) l.length l.length) l := by
  refine ⟨_, _, rfl, Nat.le_refl _, ⟨Nat.le_trans hl (by decide), hl⟩, fun hne => ⟨w.heap.size, 0, rfl, fun i x hx => ?_⟩⟩
  rw [Nat.zero_add, cell_of_row _ _ i _ _ _ (heap_alloc_new w _)]
  simp [u8s, hx]

/-- A slice of bytes that lies whole in a block. -/
theorem BS.block {w : World} {g : Nat} {l : List UInt8} {t : TypeId} {fr : Nat × Nat} (h : w.heap[g]? = some (.cells (u8s l).toArray t fr)) (hl : l.length ≤ 140737488355328) : BS w (.slice (some ⟨g, 0, none⟩) l.length l.length) l := by
  refine ⟨_, _, rfl, Nat.le_refl _, ⟨Nat.le_trans hl (by decide), hl⟩, fun hne => ⟨g, 0, rfl, fun i x hx => ?_⟩⟩
  rw [Nat.zero_add, cell_of_row _ _ i _ _ _ h]
  simp [u8s, hx]

/-- A slice of symbols that lies whole in a block. -/
theorem SS.block {w : World} {g : Nat} {l : List Sym} {t : TypeId} {fr : Nat × Nat} (h : w.heap[g]? = some (.cells (symsCells l).toArray t fr)) (hl : l.length ≤ 140737488355328) : SS w (.slice (some ⟨g, 0, none⟩) l.length l.length) l := by
  refine ⟨_, _, rfl, Nat.le_refl _, hl, fun hne => ⟨g, 0, rfl, fun k s hs => ?_⟩⟩
  have hc := fun i (hi : i < 4) => (cell_of_row _ _ (k * 4 + i) _ _ _ h).trans (by simpa using (symsCells_at l k i hi))
  rw [hs] at hc
  rw [Nat.zero_add]
  exact ⟨hc 0 (by omega), hc 1 (by omega), hc 2 (by omega), hc 3 (by omega)⟩

def tb (x : UInt8) : List UInt8 := [1, 0, 0, 0, x, 1, 0, 0, 8, 0, 0, 0, 0, 0, 0, 0]

theorem tab_15 : tableM (tb 15) [0, 97, 0] 1 = ([⟨[97], 1, 8, false⟩], 0) := by rfl
theorem tab_14 : tableM (tb 14) [0, 97, 0] 1 = ([], 0) := by rfl
theorem tab_31 : tableM (tb 31) [0, 97, 0] 1 = ([], 0) := by rfl
theorem tab_1 : tableM (tb 1) [0, 97, 0] 1 = ([], 0) := by rfl
theorem tab_47 : tableM (tb 47) [0, 97, 0] 1 = ([], 0) := by rfl

def othersB : List UInt8 := [14, 31, 1, 47]

/-- What holds at the head of each round of known's loop. -/
structure KnownRel (w : World) (wr : World) (k : Nat) : Prop where
  below : Below w.heap.size w wr
  tab : ∃ x, wr.heap[w.heap.size]? = some (.cells (u8s (tb x)).toArray 5 (0, 0))
  nam : wr.heap[w.heap.size + 1]? = some (.cells (u8s [0, 97, 0]).toArray 5 (0, 0))

theorem tab_others {k : Nat} (hk : k < 4) : ∃ x, othersB[k]? = some x ∧ tableM (tb x) [0, 97, 0] 1 = ([], 0) := by
  rcases k with _ | _ | _ | _ | k
  · exact ⟨14, rfl, tab_14⟩
  · exact ⟨31, rfl, tab_31⟩
  · exact ⟨1, rfl, tab_1⟩
  · exact ⟨47, rfl, tab_47⟩
  · omega

theorem tb_set (x y : UInt8) : ((u8s (tb x)).toArray.setIfInBounds 4 (.int .u8 (y.toNat : Int))) = (u8s (tb y)).toArray := rfl

set_option maxHeartbeats 2000000 in
theorem nl_known (w : World) : Calls Try.prog 9 #[] w fun e w' => e = .returned (.bool true) ∧ Below w.heap.size w w' := by
  have hB0 : ((w.alloc (.cells (u8s (tb 15)).toArray 5)).alloc (.cells (u8s [0, 97, 0]).toArray 5)).heap[w.heap.size]? = some (.cells (u8s (tb 15)).toArray 5 (0, 0)) := heap_alloc2_old w _ _
  have hN0 : ((w.alloc (.cells (u8s (tb 15)).toArray 5)).alloc (.cells (u8s [0, 97, 0]).toArray 5)).heap[w.heap.size + 1]? = some (.cells (u8s [0, 97, 0]).toArray 5 (0, 0)) := heap_alloc2_new w _ _
  have hbel : Below w.heap.size w ((w.alloc (.cells (u8s (tb 15)).toArray 5)).alloc (.cells (u8s [0, 97, 0]).toArray 5)) := ((Below.refl _ _).alloc (Nat.le_refl _) _).alloc (by simp) _
  obtain ⟨W2, hW2⟩ : ∃ W2, W2 = ((w.alloc (.cells (u8s (tb 15)).toArray 5)).alloc (.cells (u8s [0, 97, 0]).toArray 5)) := ⟨_, rfl⟩
  have hz2 : W2.heap.size = w.heap.size + 2 := by rw [hW2]; simp
  rw [← hW2] at hB0 hN0 hbel
  have hcall := nl_all W2 (some ⟨w.heap.size, 0, none⟩) (some ⟨w.heap.size + 1, 0, none⟩) 16 16 3 3 (tb 15) [0, 97, 0] 1 (BS.block hB0 (by decide)) (BS.block hN0 (by decide))
  rw [tab_15] at hcall
  have H := hid (And.intro hB0 (And.intro hN0 (And.intro hbel (And.intro hz2 (And.intro hW2 hcall)))))
  have hz2' : w.heap.size + 2 ≤ W2.heap.size := by omega
  clear hB0 hN0 hbel hz2 hW2 hcall
  go_enter Try.func9, Try.ntmps9
  go_wp2_with fail
  have hcall := H.out.2.2.2.2.2
  rw [H.out.2.2.2.2.1] at hcall
  refine hcall.mono ?_
  clear hcall
  rintro e w3 ⟨v, rfl, hown, hb3⟩
  rw [← H.out.2.2.2.2.1] at hown hb3
  have hss := SS.of_owns hown (by decide)
  obtain ⟨a3, c3, rfl⟩ := ownsRow_form hown
  have hz3 : w.heap.size + 2 ≤ w3.heap.size := by have := hb3.size; omega
  have H3 := hid (And.intro hss hb3)
  clear hown hss hb3
  go_wp2_with fail
  refine (ref_same _ _ _ [⟨[97], 1, 8, false⟩] (by exact H3.out.1.below ((Below.refl _ _).alloc (Nat.le_refl _) _)) (by exact SS.block (l := [⟨[97], 1, 8, false⟩]) (heap_alloc_new w3 _) (by decide))).mono ?_
  rintro e w4 ⟨rfl, q4, rfl⟩
  go_wp2_with fail
  go_loopw [6] (fun i wr => ∃ k : Nat, k ≤ 4 ∧ i = .int .i64 (k : Int) ∧ KnownRel w wr k ∧ wr.heap[w3.heap.size + 1]? = some (.cells (u8s othersB).toArray 5 (0, 0)) ∧ w3.heap.size + 2 ≤ wr.heap.size) (fun i _ => 4 - (intOf i).toNat)
  case atStart =>
    have hbl : ∀ k, k < w3.heap.size → ((w3.alloc (.cells (symsCells [⟨[97], 1, 8, false⟩]).toArray 30)).alloc (.cells (u8s othersB).toArray 5)).heap[k]? = w3.heap[k]? := fun k hk => (Below.heap_alloc _ _ _ (by simp; omega)).trans (Below.heap_alloc _ _ _ hk)
    refine ⟨0, by omega, rfl, ⟨below_drewN (((H.out.2.2.1.trans (H3.out.2.mono H.out.2.2.1.size)).alloc (by omega) _).alloc (by simp; omega) _) q4, ⟨15, ?_⟩, ?_⟩, ?_, by simp⟩
    · exact (hbl _ (by omega)).trans ((H3.out.2.block _ (by omega)).trans H.out.1)
    · exact (hbl _ (by omega)).trans ((H3.out.2.block _ (by omega)).trans H.out.2.1)
    · exact heap_alloc2_new w3 _ _
  case round =>
    obtain ⟨k, hk, rfl, R, ho, hzr⟩ := hrel
    by_cases hlt : k < 4
    · obtain ⟨x, hx, hM⟩ := tab_others hlt
      obtain ⟨y, hy⟩ := R.tab
      have hcx : wr.cell? ⟨w3.heap.size + 1, k, none⟩ = some (.int .u8 (x.toNat : Int)) := by
        rw [cell_of_row _ _ k _ _ _ ho]; simp [u8s, hx]
      have hc4 : wr.cell? ⟨w.heap.size, 4, none⟩ = some (.int .u8 (y.toNat : Int)) := by rw [cell_of_row _ _ 4 _ _ _ hy]; rfl
      have hf4 : wr.frozen? ⟨w.heap.size, 4, none⟩ = false := frozen_of_row _ _ _ _ _ hy
      obtain ⟨Wr, hWr⟩ : ∃ Wr, Wr = wr.setCell ⟨w.heap.size, 4, none⟩ (.int .u8 (x.toNat : Int)) := ⟨_, rfl⟩
      have hy' : Wr.heap[w.heap.size]? = some (.cells (u8s (tb x)).toArray 5 (0, 0)) := by
        rw [hWr, heap_setCell_same _ _ _ _ _ _ hy, tb_set]
      have hn' : Wr.heap[w.heap.size + 1]? = some (.cells (u8s [0, 97, 0]).toArray 5 (0, 0)) := by
        rw [hWr, Below.heap_setCell _ _ _ _ (by show w.heap.size + 1 ≠ w.heap.size; omega)]; exact R.nam
      have ho' : Wr.heap[w3.heap.size + 1]? = some (.cells (u8s othersB).toArray 5 (0, 0)) := by
        rw [hWr, Below.heap_setCell _ _ _ _ (by show w3.heap.size + 1 ≠ w.heap.size; omega)]; exact ho
      have hb' : Below w.heap.size w Wr := by rw [hWr]; exact R.below.setCell (Nat.le_refl _) _
      have hzW : Wr.heap.size = wr.heap.size := by rw [hWr]; simp [World.setCell]
      have hcall := nl_all Wr (some ⟨w.heap.size, 0, none⟩) (some ⟨w.heap.size + 1, 0, none⟩) 16 16 3 3 (tb x) [0, 97, 0] 1 (BS.block hy' (show 16 ≤ 140737488355328 by decide)) (BS.block hn' (by decide))
      rw [hM] at hcall
      have HK := hid (And.intro hy' (And.intro hn' (And.intro ho' (And.intro hb' (And.intro hWr (And.intro hzW hcall))))))
      clear R ho hx hM hy hy' hn' ho' hb' hWr hzW hcall
      go_wp2_with fail
      have hcall := HK.out.2.2.2.2.2.2
      rw [HK.out.2.2.2.2.1] at hcall
      refine hcall.mono ?_
      clear hcall
      rintro e w5 ⟨v, rfl, hown, hb5⟩
      rw [← HK.out.2.2.2.2.1] at hb5
      obtain ⟨a5, c5, rfl⟩ := ownsRow_form hown
      have H5 := hid hb5
      clear hown hb5
      go_wp2
      obtain ⟨hy', hn', ho', hb', hWr, hzW, -⟩ := HK.out
      have hb5 := H5.out
      refine ⟨⟨k + 1, by omega, by go_num, ⟨hb'.trans (hb5.mono hb'.size), ⟨x, (hb5.block _ (by omega)).trans hy'⟩, (hb5.block _ (by omega)).trans hn'⟩, (hb5.block _ (by omega)).trans ho', by have := hb5.size; omega⟩, by simp [intOf]; omega⟩
    · have hb := hid R.below
      clear R ho
      go_wp2
      go_ret
      exact ⟨rfl, hb.out⟩

end Go.Proofs.Ytdckfcpjdakjaaa
