/- The walks of symbol.Of, symbol.Line, and of SymbolNamed's known. Printed by gen_sgd.py. -/
import Derived.Test.YtdckfcpjdakjaaaDoorSgD
namespace Go.Proofs.YtdckfcpjdakjaaaDoor
set_option linter.unusedSimpArgs false
set_option linter.unusedVariables false
open Go.RowKit
attribute [local go_sem ↓] old_img old_loaded
attribute [local go_sem] big_img big_loaded

/-- known's two symbols lie in the block g. -/
def ListAt (w : World) (g : Nat) : Prop := w.heap[g]? = some (.cells #[.string ⟨#[98]⟩, .int .i64 0, .int .u64 16416, .bool false, .string ⟨#[97]⟩, .int .i64 0, .int .u64 16400, .bool false] 28 (0, 0))
theorem ListAt.below {w w' : World} {g : Nat} (h : ListAt w g) (hb : Below w.heap.size w w') : ListAt w' g := heap_below h hb

/-- What holds at the head of each round of Of's loop. -/
structure OfRel (w W : World) (B7 B8 B9 B10 g a : Nat) (found : Bool) (nm : ByteArray) (off : Nat) : Prop where
  caps : Caps W w.heap.size B7 B8 B9 B10 a found nm off
  c6 : W.heap[w.heap.size + 1]? = some (.cells #[.bool false, .int .i64 0, .string ⟨#[]⟩, .int .u64 0] 44 (0, 0))
  list : ListAt W g
  below : Below w.heap.size w W
theorem OfRel.next {w W W' : World} {B7 B8 B9 B10 g a : Nat} {found : Bool} {nm : ByteArray} {off : Nat} (h : OfRel w W B7 B8 B9 B10 g a found nm off) (hb : Below W.heap.size W W') : OfRel w W' B7 B8 B9 B10 g a found nm off :=
  ⟨h.caps.below hb, heap_below h.c6 hb, h.list.below hb, h.below.trans (hb.mono h.below.size)⟩

theorem OfRel.put {w W : World} {B7 B8 B g a : Nat} {nm0 : ByteArray} {off0 : Nat} (R : OfRel w W B7 B8 B (B + 1) g a false nm0 off0) (nm : ByteArray) (off : Nat) (h0 : w.heap.size + 1 < B) (h7 : B7 < B) (h8 : B8 < B) (hg : g < B) :
    OfRel w (((W.setCell ⟨B + 1, 0, none⟩ (.bool true)).setCell ⟨B, 2, none⟩ (.string nm)).setCell ⟨B, 3, none⟩ (.int .u64 (off : Int))).drew B7 B8 B (B + 1) g a true nm off := by
  have hk : ∀ k, k < B → (((W.setCell ⟨B + 1, 0, none⟩ (.bool true)).setCell ⟨B, 2, none⟩ (.string nm)).setCell ⟨B, 3, none⟩ (.int .u64 (off : Int))).drew.heap[k]? = W.heap[k]? := fun k hk => by
    show (((W.setCell ⟨B + 1, 0, none⟩ (.bool true)).setCell ⟨B, 2, none⟩ (.string nm)).setCell ⟨B, 3, none⟩ (.int .u64 (off : Int))).heap[k]? = W.heap[k]?
    rw [Below.heap_setCell _ _ _ _ (by show k ≠ B; omega), Below.heap_setCell _ _ _ _ (by show k ≠ B; omega), Below.heap_setCell _ _ _ _ (by show k ≠ B + 1; omega)]
  have h9 : (W.setCell ⟨B + 1, 0, none⟩ (.bool true)).heap[B]? = some (.cells #[.bool true, .int .i64 0, .string nm0, .int .u64 (off0 : Int)] 44 (0, 0)) := by
    rw [Below.heap_setCell _ _ _ _ (by show B ≠ B + 1; omega)]; exact R.caps.c9
  refine ⟨⟨(hk _ (by omega)).trans R.caps.cA, (hk _ h7).trans R.caps.c7, (hk _ h8).trans R.caps.c8, ?_, ?_⟩, (hk _ h0).trans R.c6, (hk _ hg).trans R.list, ?_⟩
  · show (((W.setCell ⟨B + 1, 0, none⟩ (.bool true)).setCell ⟨B, 2, none⟩ (.string nm)).setCell ⟨B, 3, none⟩ (.int .u64 (off : Int))).heap[B]? = _
    rw [heap_setCell_same _ _ _ _ _ _ (heap_setCell_same _ _ _ _ _ _ h9)]
    rfl
  · show (((W.setCell ⟨B + 1, 0, none⟩ (.bool true)).setCell ⟨B, 2, none⟩ (.string nm)).setCell ⟨B, 3, none⟩ (.int .u64 (off : Int))).heap[B + 1]? = _
    rw [Below.heap_setCell _ _ _ _ (by show B + 1 ≠ B; omega), Below.heap_setCell _ _ _ _ (by show B + 1 ≠ B; omega), heap_setCell_same _ _ _ _ _ _ R.caps.c10]
    rfl
  · exact below_drewN (((R.below.setCell (p := ⟨B + 1, 0, none⟩) (by show w.heap.size ≤ B + 1; omega) _).setCell (p := ⟨B, 2, none⟩) (by show w.heap.size ≤ B; omega) _).setCell (p := ⟨B, 3, none⟩) (by show w.heap.size ≤ B; omega) _) 1


set_option maxRecDepth 100000 in
set_option maxHeartbeats 4000000 in
theorem sg_of_4 (w : World) (b c g : Nat) (h : OneAt w b c) (hl : ListAt w g) :
    Calls Tryd.prog 8 #[.slice (some ⟨c, 0, none⟩) 1 1, .slice (some ⟨g, 0, none⟩) 2 2, .int .u64 16388] w fun e w' => e = .returned (.agg #[.bool true, .int .i64 0, .string ⟨#[]⟩, .int .u64 4]) ∧ Below w.heap.size w w' := by
  have hgl : g < w.heap.size := (Array.getElem?_eq_some_iff.1 hl).1
  obtain ⟨L, I, hL, hc⟩ := h.is
  obtain ⟨W0, hW0⟩ : ∃ W0, W0 = (w.alloc (.cells #[.int .u64 16388] 26)).alloc (.cells #[.bool false, .int .i64 0, .string ⟨#[]⟩, .int .u64 0] 44) := ⟨_, rfl⟩
  have hb0 : Below w.heap.size w W0 := by rw [hW0]; exact ((Below.refl _ _).alloc (Nat.le_refl _) _).alloc (by simp) _
  have hA0 : W0.heap[w.heap.size]? = some (.cells #[.int .u64 16388] 26 (0, 0)) := by rw [hW0]; exact heap_alloc2_old w _ _
  have h60 : W0.heap[w.heap.size + 1]? = some (.cells #[.bool false, .int .i64 0, .string ⟨#[]⟩, .int .u64 0] 44 (0, 0)) := by rw [hW0]; exact heap_alloc2_new w _ _
  have hcall := sg_idxload W0 w.heap.size b c (h.below hb0) 16388 4 (cell_of_row _ _ 0 _ _ _ hA0) (by decide +kernel)
  rw [if_pos (by omega)] at hcall
  rw [hW0] at hcall
  have H := hid (And.intro hL (And.intro hc (And.intro h (And.intro hl (And.intro hb0 (And.intro hA0 (And.intro h60 hW0)))))))
  have Hc := hid hcall
  have hd : IntKind.u64.wrap ((16388 : Int) - 16384) = 4 := by decide +kernel
  clear hL hc h hl hb0 hA0 h60 hW0 hcall
  go_enter Tryd.func8, Tryd.ntmps8
  go_wp2_with fail
  refine Hc.out.mono ?_
  rintro e w1 ⟨rfl, hb1⟩
  rw [← H.out.2.2.2.2.2.2.2] at hb1
  obtain ⟨hL, hc, h, hl, hb0, hA0, h60, hW0⟩ := H.out
  have hr := rowA_below (a := ⟨c, 0, none⟩) (hb0.trans (hb1.mono hb0.size)) (Array.getElem?_eq_some_iff.1 hc).1 (rowA_block hc hL.size)
  have hc1 : w1.heap[c]? = _ := heap_below hc (hb0.trans (hb1.mono hb0.size))
  have hr1 : rowA (w1.alloc (.cells #[.int .i64 0] 3)) ⟨c, 0, none⟩ 27 = some L := rowA_below ((Below.refl w1.heap.size w1).alloc (Nat.le_refl _) _) (Array.getElem?_eq_some_iff.1 hc1).1 hr
  have hbw1 := hb0.trans (hb1.mono hb0.size)
  have H1 := hid (And.intro hL (And.intro (h.below hbw1) (And.intro (hl.below hbw1) (And.intro (heap_below hA0 hb1) (And.intro (heap_below h60 hb1) hbw1)))))
  clear hL hc h hl hb0 hA0 h60 hW0 hb1 hr hc1 hbw1
  go_wp2_with fail
  refine (sg_begin _ b L I H1.out.1 (H1.out.2.1.alloc _).1).mono ?_
  rintro e w2 ⟨rfl, hb2⟩
  obtain ⟨hL, h1, hl1, hA1, h61, hbw1⟩ := H1.out
  have hba : Below w1.heap.size w1 (w1.alloc (.cells #[.int .i64 0] 3)) := (Below.refl w1.heap.size w1).alloc (Nat.le_refl _) _
  have hb12 : Below w1.heap.size w1 w2 := hba.trans (hb2.mono (by simp))
  have h72 : w2.heap[w1.heap.size]? = some (.cells #[.int .i64 0] 3 (0, 0)) := heap_below (heap_alloc_new w1 _) hb2
  have hA2 := heap_below hA1 hb12
  have h62 := heap_below h61 hb12
  have hl2 := hl1.below hb12
  have hbw2 := hbw1.trans (hb12.mono hbw1.size)
  have k7 : w2.cell? ⟨w1.heap.size, 0, none⟩ = some (.int .i64 0) := cell_of_row _ _ 0 _ _ _ h72
  have kA : w2.cell? ⟨w.heap.size, 0, none⟩ = some (.int .u64 16388) := cell_of_row _ _ 0 _ _ _ hA2
  have l7 : w1.heap.size < w2.heap.size := (Array.getElem?_eq_some_iff.1 h72).1
  have lA : w.heap.size < w2.heap.size := (Array.getElem?_eq_some_iff.1 hA2).1
  have k7' : (w2.alloc (.cells #[.int .u64 16384] 26)).cell? ⟨w1.heap.size, 0, none⟩ = some (.int .i64 0) := (World.cell?_alloc_past _ _ _ l7).trans k7
  have kA' : (w2.alloc (.cells #[.int .u64 16384] 26)).cell? ⟨w.heap.size, 0, none⟩ = some (.int .u64 16388) := (World.cell?_alloc_past _ _ _ lA).trans kA
  have H2 := hid (And.intro h72 (And.intro hA2 (And.intro h62 (And.intro hl2 hbw2))))
  clear hL h1 hl1 hA1 h61 hbw1 hba hb12 h72 hA2 h62 hl2 hbw2 hb2 hr1
  go_wp2_with fail
  go_loopw [33] (fun i wr => ∃ k : Nat, k ≤ 2 ∧ i = .int .i64 (k : Int) ∧ OfRel w wr w1.heap.size w2.heap.size (w2.heap.size + 1) (w2.heap.size + 2) g 16388 false ⟨#[]⟩ 4) (fun i _ => 2 - (intOf i).toNat)
  case atStart =>
    obtain ⟨h72, hA2, h62, hl2, hbw2⟩ := H2.out
    obtain ⟨W3, hW3⟩ : ∃ W3, W3 = ((w2.alloc (.cells #[.int .u64 16384] 26)).alloc (.cells #[.bool true, .int .i64 0, .string ⟨#[]⟩, .int .u64 4] 44)).alloc (.cells #[.bool false] 4) := ⟨_, rfl⟩
    have hb3 : Below w2.heap.size w2 W3 := by rw [hW3]; exact (((Below.refl _ _).alloc (Nat.le_refl _) _).alloc (by simp) _).alloc (by simp; omega) _
    refine ⟨0, by omega, rfl, ?_⟩
    rw [← hW3]
    refine ⟨⟨heap_below hA2 hb3, heap_below h72 hb3, ?_, ?_, ?_⟩, heap_below h62 hb3, hl2.below hb3, hbw2.trans (hb3.mono hbw2.size)⟩
    · rw [hW3, Below.heap_alloc _ _ _ (by simp; omega), Below.heap_alloc _ _ _ (by simp)]; exact heap_alloc_new w2 _
    · rw [hW3, Below.heap_alloc _ _ _ (by simp)]; exact heap_alloc2_new w2 _ _
    · rw [hW3]
      have := heap_alloc_new ((w2.alloc (.cells #[.int .u64 16384] 26)).alloc (.cells #[.bool true, .int .i64 0, .string ⟨#[]⟩, .int .u64 4] 44)) (.cells #[.bool false] 4)
      simp only [World.size_alloc] at this
      exact this
  case round =>
    obtain ⟨k, hk, rfl, R⟩ := hrel
    have hz := R.below.size
    have s0 := fun i => cell_of_row _ _ i _ _ _ R.list
    rcases k with _ | _ | _ | k
    · have x0 : wr.cell? ⟨g, 0, none⟩ = some (.string ⟨#[98]⟩) := s0 0
      have x1 : wr.cell? ⟨g, 1, none⟩ = some (.int .i64 0) := s0 1
      have x2 : wr.cell? ⟨g, 2, none⟩ = some (.int .u64 16416) := s0 2
      have x3 : wr.cell? ⟨g, 3, none⟩ = some (.bool false) := s0 3
      have hn := R.next ((Below.refl wr.heap.size wr).alloc (Nat.le_refl _) (.cells #[.string ⟨#[98]⟩, .int .i64 0, .int .u64 16416, .bool false] 28))
      have HR := hid (And.intro R hn)
      clear R s0 hn
      go_wp2_with fail
      refine (sg_of2_no _ w.heap.size w1.heap.size w2.heap.size (w2.heap.size + 1) (w2.heap.size + 2) 16388 _ _ HR.out.2.caps ⟨#[98]⟩ 16416 4 32 (by decide +kernel) (by decide +kernel) (by omega)).mono ?_
      rintro e w4 ⟨rfl, hb4⟩
      have H4 := hid hb4
      clear hb4
      go_wp2_with fail
      exact ⟨⟨1, by omega, rfl, HR.out.2.next H4.out⟩, by simp [intOf]⟩
    · have x0 : wr.cell? ⟨g, 4, none⟩ = some (.string ⟨#[97]⟩) := s0 4
      have x1 : wr.cell? ⟨g, 5, none⟩ = some (.int .i64 0) := s0 5
      have x2 : wr.cell? ⟨g, 6, none⟩ = some (.int .u64 16400) := s0 6
      have x3 : wr.cell? ⟨g, 7, none⟩ = some (.bool false) := s0 7
      have hn := R.next ((Below.refl wr.heap.size wr).alloc (Nat.le_refl _) (.cells #[.string ⟨#[97]⟩, .int .i64 0, .int .u64 16400, .bool false] 28))
      have HR := hid (And.intro R hn)
      clear R s0 hn
      go_wp2_with fail
      refine (sg_of2_no _ w.heap.size w1.heap.size w2.heap.size (w2.heap.size + 1) (w2.heap.size + 2) 16388 _ _ HR.out.2.caps ⟨#[97]⟩ 16400 4 16 (by decide +kernel) (by decide +kernel) (by omega)).mono ?_
      rintro e w4 ⟨rfl, hb4⟩
      have H4 := hid hb4
      clear hb4
      go_wp2_with fail
      exact ⟨⟨2, by omega, rfl, HR.out.2.next H4.out⟩, by simp [intOf]⟩
    · have y0 : wr.cell? ⟨w2.heap.size + 1, 0, none⟩ = some (.bool true) := cell_of_row _ _ 0 _ _ _ R.caps.c9
      have y1 : wr.cell? ⟨w2.heap.size + 1, 1, none⟩ = some (.int .i64 0) := cell_of_row _ _ 1 _ _ _ R.caps.c9
      have y2 : wr.cell? ⟨w2.heap.size + 1, 2, none⟩ = some (.string ⟨#[]⟩) := cell_of_row _ _ 2 _ _ _ R.caps.c9
      have y3 : wr.cell? ⟨w2.heap.size + 1, 3, none⟩ = some (.int .u64 4) := cell_of_row _ _ 3 _ _ _ R.caps.c9
      have z0 : wr.cell? ⟨w.heap.size + 1, 0, none⟩ = some (.bool false) := cell_of_row _ _ 0 _ _ _ R.c6
      have z1 : wr.cell? ⟨w.heap.size + 1, 1, none⟩ = some (.int .i64 0) := cell_of_row _ _ 1 _ _ _ R.c6
      have z2 : wr.cell? ⟨w.heap.size + 1, 2, none⟩ = some (.string ⟨#[]⟩) := cell_of_row _ _ 2 _ _ _ R.c6
      have z3 : wr.cell? ⟨w.heap.size + 1, 3, none⟩ = some (.int .u64 0) := cell_of_row _ _ 3 _ _ _ R.c6
      have hf := fun i => frozen_of_row _ _ i _ _ R.c6
      have HR := hid (And.intro R.below R.c6)
      clear R s0
      go_wp2_with fail
      have hfin := HR.out.2
      refine bodyPost_ret (v := .agg #[.bool true, .int .i64 0, .string ⟨#[]⟩, .int .u64 4]) (by simp [results, Tryd.results8, go_sem, *]) rfl ⟨rfl, ?_⟩
      exact (((HR.out.1.setCell (by simp) _).setCell (by simp) _).setCell (by simp) _).setCell (by simp) _
    · omega


set_option maxRecDepth 100000 in
set_option maxHeartbeats 4000000 in
theorem sg_of_24 (w : World) (b c g : Nat) (h : OneAt w b c) (hl : ListAt w g) :
    Calls Tryd.prog 8 #[.slice (some ⟨c, 0, none⟩) 1 1, .slice (some ⟨g, 0, none⟩) 2 2, .int .u64 16408] w fun e w' => e = .returned (.agg #[.bool true, .int .i64 0, .string ⟨#[97]⟩, .int .u64 8]) ∧ Below w.heap.size w w' := by
  have hgl : g < w.heap.size := (Array.getElem?_eq_some_iff.1 hl).1
  obtain ⟨L, I, hL, hc⟩ := h.is
  obtain ⟨W0, hW0⟩ : ∃ W0, W0 = (w.alloc (.cells #[.int .u64 16408] 26)).alloc (.cells #[.bool false, .int .i64 0, .string ⟨#[]⟩, .int .u64 0] 44) := ⟨_, rfl⟩
  have hb0 : Below w.heap.size w W0 := by rw [hW0]; exact ((Below.refl _ _).alloc (Nat.le_refl _) _).alloc (by simp) _
  have hA0 : W0.heap[w.heap.size]? = some (.cells #[.int .u64 16408] 26 (0, 0)) := by rw [hW0]; exact heap_alloc2_old w _ _
  have h60 : W0.heap[w.heap.size + 1]? = some (.cells #[.bool false, .int .i64 0, .string ⟨#[]⟩, .int .u64 0] 44 (0, 0)) := by rw [hW0]; exact heap_alloc2_new w _ _
  have hcall := sg_idxload W0 w.heap.size b c (h.below hb0) 16408 24 (cell_of_row _ _ 0 _ _ _ hA0) (by decide +kernel)
  rw [if_pos (by omega)] at hcall
  rw [hW0] at hcall
  have H := hid (And.intro hL (And.intro hc (And.intro h (And.intro hl (And.intro hb0 (And.intro hA0 (And.intro h60 hW0)))))))
  have Hc := hid hcall
  have hd : IntKind.u64.wrap ((16408 : Int) - 16384) = 24 := by decide +kernel
  clear hL hc h hl hb0 hA0 h60 hW0 hcall
  go_enter Tryd.func8, Tryd.ntmps8
  go_wp2_with fail
  refine Hc.out.mono ?_
  rintro e w1 ⟨rfl, hb1⟩
  rw [← H.out.2.2.2.2.2.2.2] at hb1
  obtain ⟨hL, hc, h, hl, hb0, hA0, h60, hW0⟩ := H.out
  have hr := rowA_below (a := ⟨c, 0, none⟩) (hb0.trans (hb1.mono hb0.size)) (Array.getElem?_eq_some_iff.1 hc).1 (rowA_block hc hL.size)
  have hc1 : w1.heap[c]? = _ := heap_below hc (hb0.trans (hb1.mono hb0.size))
  have hr1 : rowA (w1.alloc (.cells #[.int .i64 0] 3)) ⟨c, 0, none⟩ 27 = some L := rowA_below ((Below.refl w1.heap.size w1).alloc (Nat.le_refl _) _) (Array.getElem?_eq_some_iff.1 hc1).1 hr
  have hbw1 := hb0.trans (hb1.mono hb0.size)
  have H1 := hid (And.intro hL (And.intro (h.below hbw1) (And.intro (hl.below hbw1) (And.intro (heap_below hA0 hb1) (And.intro (heap_below h60 hb1) hbw1)))))
  clear hL hc h hl hb0 hA0 h60 hW0 hb1 hr hc1 hbw1
  go_wp2_with fail
  refine (sg_begin _ b L I H1.out.1 (H1.out.2.1.alloc _).1).mono ?_
  rintro e w2 ⟨rfl, hb2⟩
  obtain ⟨hL, h1, hl1, hA1, h61, hbw1⟩ := H1.out
  have hba : Below w1.heap.size w1 (w1.alloc (.cells #[.int .i64 0] 3)) := (Below.refl w1.heap.size w1).alloc (Nat.le_refl _) _
  have hb12 : Below w1.heap.size w1 w2 := hba.trans (hb2.mono (by simp))
  have h72 : w2.heap[w1.heap.size]? = some (.cells #[.int .i64 0] 3 (0, 0)) := heap_below (heap_alloc_new w1 _) hb2
  have hA2 := heap_below hA1 hb12
  have h62 := heap_below h61 hb12
  have hl2 := hl1.below hb12
  have hbw2 := hbw1.trans (hb12.mono hbw1.size)
  have k7 : w2.cell? ⟨w1.heap.size, 0, none⟩ = some (.int .i64 0) := cell_of_row _ _ 0 _ _ _ h72
  have kA : w2.cell? ⟨w.heap.size, 0, none⟩ = some (.int .u64 16408) := cell_of_row _ _ 0 _ _ _ hA2
  have l7 : w1.heap.size < w2.heap.size := (Array.getElem?_eq_some_iff.1 h72).1
  have lA : w.heap.size < w2.heap.size := (Array.getElem?_eq_some_iff.1 hA2).1
  have k7' : (w2.alloc (.cells #[.int .u64 16384] 26)).cell? ⟨w1.heap.size, 0, none⟩ = some (.int .i64 0) := (World.cell?_alloc_past _ _ _ l7).trans k7
  have kA' : (w2.alloc (.cells #[.int .u64 16384] 26)).cell? ⟨w.heap.size, 0, none⟩ = some (.int .u64 16408) := (World.cell?_alloc_past _ _ _ lA).trans kA
  have H2 := hid (And.intro h72 (And.intro hA2 (And.intro h62 (And.intro hl2 hbw2))))
  clear hL h1 hl1 hA1 h61 hbw1 hba hb12 h72 hA2 h62 hl2 hbw2 hb2 hr1
  go_wp2_with fail
  go_loopw [33] (fun i wr => ∃ k : Nat, k ≤ 2 ∧ i = .int .i64 (k : Int) ∧ OfRel w wr w1.heap.size w2.heap.size (w2.heap.size + 1) (w2.heap.size + 2) g 16408 (cond (Nat.beq k 2) true false) (cond (Nat.beq k 2) ⟨#[97]⟩ ⟨#[]⟩) (cond (Nat.beq k 2) 8 24)) (fun i _ => 2 - (intOf i).toNat)
  case atStart =>
    obtain ⟨h72, hA2, h62, hl2, hbw2⟩ := H2.out
    obtain ⟨W3, hW3⟩ : ∃ W3, W3 = ((w2.alloc (.cells #[.int .u64 16384] 26)).alloc (.cells #[.bool true, .int .i64 0, .string ⟨#[]⟩, .int .u64 24] 44)).alloc (.cells #[.bool false] 4) := ⟨_, rfl⟩
    have hb3 : Below w2.heap.size w2 W3 := by rw [hW3]; exact (((Below.refl _ _).alloc (Nat.le_refl _) _).alloc (by simp) _).alloc (by simp; omega) _
    refine ⟨0, by omega, rfl, ?_⟩
    rw [← hW3]
    refine ⟨⟨heap_below hA2 hb3, heap_below h72 hb3, ?_, ?_, ?_⟩, heap_below h62 hb3, hl2.below hb3, hbw2.trans (hb3.mono hbw2.size)⟩
    · rw [hW3, Below.heap_alloc _ _ _ (by simp; omega), Below.heap_alloc _ _ _ (by simp)]; exact heap_alloc_new w2 _
    · rw [hW3, Below.heap_alloc _ _ _ (by simp)]; exact heap_alloc2_new w2 _ _
    · rw [hW3]
      have := heap_alloc_new ((w2.alloc (.cells #[.int .u64 16384] 26)).alloc (.cells #[.bool true, .int .i64 0, .string ⟨#[]⟩, .int .u64 24] 44)) (.cells #[.bool false] 4)
      simp only [World.size_alloc] at this
      exact this
  case round =>
    obtain ⟨k, hk, rfl, R⟩ := hrel
    have hz := R.below.size
    have s0 := fun i => cell_of_row _ _ i _ _ _ R.list
    rcases k with _ | _ | _ | k
    · have x0 : wr.cell? ⟨g, 0, none⟩ = some (.string ⟨#[98]⟩) := s0 0
      have x1 : wr.cell? ⟨g, 1, none⟩ = some (.int .i64 0) := s0 1
      have x2 : wr.cell? ⟨g, 2, none⟩ = some (.int .u64 16416) := s0 2
      have x3 : wr.cell? ⟨g, 3, none⟩ = some (.bool false) := s0 3
      have hn := R.next ((Below.refl wr.heap.size wr).alloc (Nat.le_refl _) (.cells #[.string ⟨#[98]⟩, .int .i64 0, .int .u64 16416, .bool false] 28))
      have HR := hid (And.intro R hn)
      clear R s0 hn
      go_wp2_with fail
      refine (sg_of2_no _ w.heap.size w1.heap.size w2.heap.size (w2.heap.size + 1) (w2.heap.size + 2) 16408 _ _ HR.out.2.caps ⟨#[98]⟩ 16416 24 32 (by decide +kernel) (by decide +kernel) (by omega)).mono ?_
      rintro e w4 ⟨rfl, hb4⟩
      have H4 := hid hb4
      clear hb4
      go_wp2_with fail
      exact ⟨⟨1, by omega, rfl, HR.out.2.next H4.out⟩, by simp [intOf]⟩
    · have x0 : wr.cell? ⟨g, 4, none⟩ = some (.string ⟨#[97]⟩) := s0 4
      have x1 : wr.cell? ⟨g, 5, none⟩ = some (.int .i64 0) := s0 5
      have x2 : wr.cell? ⟨g, 6, none⟩ = some (.int .u64 16400) := s0 6
      have x3 : wr.cell? ⟨g, 7, none⟩ = some (.bool false) := s0 7
      have hn := R.next ((Below.refl wr.heap.size wr).alloc (Nat.le_refl _) (.cells #[.string ⟨#[97]⟩, .int .i64 0, .int .u64 16400, .bool false] 28))
      have HR := hid (And.intro R hn)
      clear R s0 hn
      go_wp2_with fail
      refine (sg_of2_yes _ w.heap.size w1.heap.size w2.heap.size (w2.heap.size + 1) (w2.heap.size + 2) 16408 _ _ HR.out.2.caps ⟨#[97]⟩ 16400 24 16 8 (by decide +kernel) (by decide +kernel) (by decide +kernel) (by omega)).mono ?_
      rintro e w4 ⟨rfl, hb4⟩
      have l61 : w.heap.size + 1 < w2.heap.size := (Array.getElem?_eq_some_iff.1 H2.out.2.2.1).1
      have R4 := HR.out.2.next hb4
      have hX : w4.heap[wr.heap.size]? = some (.cells #[.string ⟨#[97]⟩, .int .i64 0, .int .u64 16400, .bool false] 28 (0, 0)) := heap_below (heap_alloc_new wr _) hb4
      have q0 : w4.cell? ⟨wr.heap.size, 0, none⟩ = some (.string ⟨#[97]⟩) := cell_of_row _ _ 0 _ _ _ hX
      have q2 : w4.cell? ⟨wr.heap.size, 2, none⟩ = some (.int .u64 16400) := cell_of_row _ _ 2 _ _ _ hX
      obtain ⟨rA, r7, r8, r10, r93, r92⟩ := R4.caps.cells
      have f9 := fun i => frozen_of_row _ _ i _ _ R4.caps.c9
      have f10 := fun i => frozen_of_row _ _ i _ _ R4.caps.c10
      have l10 : w2.heap.size + 2 < wr.heap.size := (Array.getElem?_eq_some_iff.1 HR.out.1.caps.c10).1
      have hsub : IntKind.u64.wrap ((16408 : Int) - 16400) = 8 := by decide +kernel
      have H4 := hid (And.intro R4 hX)
      clear R4 hX hb4
      go_wp2_with fail
      go_region
      go_wp2_with fail
      exact ⟨⟨2, by omega, rfl, H4.out.1.put ⟨#[97]⟩ 8 (by omega) (by omega) (by omega) (by omega)⟩, by simp [intOf]⟩
    · have y0 : wr.cell? ⟨w2.heap.size + 1, 0, none⟩ = some (.bool true) := cell_of_row _ _ 0 _ _ _ R.caps.c9
      have y1 : wr.cell? ⟨w2.heap.size + 1, 1, none⟩ = some (.int .i64 0) := cell_of_row _ _ 1 _ _ _ R.caps.c9
      have y2 : wr.cell? ⟨w2.heap.size + 1, 2, none⟩ = some (.string ⟨#[97]⟩) := cell_of_row _ _ 2 _ _ _ R.caps.c9
      have y3 : wr.cell? ⟨w2.heap.size + 1, 3, none⟩ = some (.int .u64 8) := cell_of_row _ _ 3 _ _ _ R.caps.c9
      have z0 : wr.cell? ⟨w.heap.size + 1, 0, none⟩ = some (.bool false) := cell_of_row _ _ 0 _ _ _ R.c6
      have z1 : wr.cell? ⟨w.heap.size + 1, 1, none⟩ = some (.int .i64 0) := cell_of_row _ _ 1 _ _ _ R.c6
      have z2 : wr.cell? ⟨w.heap.size + 1, 2, none⟩ = some (.string ⟨#[]⟩) := cell_of_row _ _ 2 _ _ _ R.c6
      have z3 : wr.cell? ⟨w.heap.size + 1, 3, none⟩ = some (.int .u64 0) := cell_of_row _ _ 3 _ _ _ R.c6
      have hf := fun i => frozen_of_row _ _ i _ _ R.c6
      have HR := hid (And.intro R.below R.c6)
      clear R s0
      go_wp2_with fail
      have hfin := HR.out.2
      refine bodyPost_ret (v := .agg #[.bool true, .int .i64 0, .string ⟨#[97]⟩, .int .u64 8]) (by simp [results, Tryd.results8, go_sem, *]) rfl ⟨rfl, ?_⟩
      exact (((HR.out.1.setCell (by simp) _).setCell (by simp) _).setCell (by simp) _).setCell (by simp) _
    · omega

end Go.Proofs.YtdckfcpjdakjaaaDoor
