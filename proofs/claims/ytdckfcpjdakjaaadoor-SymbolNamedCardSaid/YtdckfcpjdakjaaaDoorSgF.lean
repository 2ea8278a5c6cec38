/- The walks of symbol.Of where an address lies nowhere, of symbol.Line, and of SymbolNamed's known. -/
import Derived.Test.YtdckfcpjdakjaaaDoorSgE
namespace Go.Proofs.YtdckfcpjdakjaaaDoor
set_option linter.unusedSimpArgs false
set_option linter.unusedVariables false
open Go.RowKit
attribute [local go_sem ↓] old_img old_loaded
attribute [local go_sem] big_img big_loaded

set_option maxRecDepth 100000 in
set_option maxHeartbeats 2000000 in
theorem sg_of_none (w : World) (b c g : Nat) (h : OneAt w b c) (hl : ListAt w g) :
    Calls Tryd.prog 8 #[.slice (some ⟨c, 0, none⟩) 1 1, .slice (some ⟨g, 0, none⟩) 2 2, .int .u64 20480] w fun e w' => e = .returned (.agg #[.bool false, .int .i64 0, .string ⟨#[]⟩, .int .u64 0]) ∧ Below w.heap.size w w' := by
  obtain ⟨W0, hW0⟩ : ∃ W0, W0 = (w.alloc (.cells #[.int .u64 20480] 26)).alloc (.cells #[.bool false, .int .i64 0, .string ⟨#[]⟩, .int .u64 0] 44) := ⟨_, rfl⟩
  have hb0 : Below w.heap.size w W0 := by rw [hW0]; exact ((Below.refl _ _).alloc (Nat.le_refl _) _).alloc (by simp) _
  have hA0 : W0.heap[w.heap.size]? = some (.cells #[.int .u64 20480] 26 (0, 0)) := by rw [hW0]; exact heap_alloc2_old w _ _
  have h60 : W0.heap[w.heap.size + 1]? = some (.cells #[.bool false, .int .i64 0, .string ⟨#[]⟩, .int .u64 0] 44 (0, 0)) := by rw [hW0]; exact heap_alloc2_new w _ _
  have hcall := sg_idxload W0 w.heap.size b c (h.below hb0) 20480 4096 (cell_of_row _ _ 0 _ _ _ hA0) (by decide +kernel)
  rw [if_neg (by omega)] at hcall
  rw [hW0] at hcall
  have H := hid (And.intro hb0 (And.intro h60 hW0))
  have Hc := hid hcall
  clear h hl hb0 hA0 h60 hW0 hcall
  go_enter Tryd.func8, Tryd.ntmps8
  go_wp2_with fail
  refine Hc.out.mono ?_
  rintro e w1 ⟨rfl, hb1⟩
  rw [← H.out.2.2] at hb1
  have h61 := heap_below H.out.2.1 hb1
  have hbw := H.out.1.trans (hb1.mono H.out.1.size)
  have l6 : w.heap.size + 1 < w1.heap.size := (Array.getElem?_eq_some_iff.1 h61).1
  have z0 : w1.cell? ⟨w.heap.size + 1, 0, none⟩ = some (.bool false) := cell_of_row _ _ 0 _ _ _ h61
  have z1 : w1.cell? ⟨w.heap.size + 1, 1, none⟩ = some (.int .i64 0) := cell_of_row _ _ 1 _ _ _ h61
  have z2 : w1.cell? ⟨w.heap.size + 1, 2, none⟩ = some (.string ⟨#[]⟩) := cell_of_row _ _ 2 _ _ _ h61
  have z3 : w1.cell? ⟨w.heap.size + 1, 3, none⟩ = some (.int .u64 0) := cell_of_row _ _ 3 _ _ _ h61
  have hf := fun i => frozen_of_row _ _ i _ _ h61
  have Hb := hid hbw
  clear hb1 h61 hbw
  go_wp2_with fail
  refine bodyPost_ret (v := .agg #[.bool false, .int .i64 0, .string ⟨#[]⟩, .int .u64 0]) (by simp [results, Tryd.results8, go_sem, *]) rfl ⟨rfl, ?_⟩
  have hb := Hb.out
  go_grown

/-- What stands while Line goes on. -/
structure LineIn (w W : World) (b c : Nat) : Prop where
  tab : W.cell? ⟨2, 15, none⟩ = some (.int .u8 4)
  spot : W.heap[w.heap.size]? = some (.cells #[.bool true, .int .i64 0, .string ⟨#[97]⟩, .int .u64 8] 44 (0, 0))
  one : OneAt W b c
  below : Below w.heap.size w W

theorem LineIn.all {w W : World} {b c : Nat} (h : LineIn w W b c) : W.cell? ⟨w.heap.size, 1, none⟩ = some (.int .i64 0) ∧ W.cell? ⟨w.heap.size, 2, none⟩ = some (.string ⟨#[97]⟩) ∧ W.cell? ⟨w.heap.size, 3, none⟩ = some (.int .u64 8) ∧ W.cell? ⟨c, 0, none⟩ = some (.string ⟨#[109]⟩) :=
  ⟨cell_of_row _ _ 1 _ _ _ h.spot, cell_of_row _ _ 2 _ _ _ h.spot, cell_of_row _ _ 3 _ _ _ h.spot, cell_of_row _ _ 0 _ _ _ h.one.2⟩
theorem LineIn.next {w W W' : World} {b c : Nat} (h : LineIn w W b c) (hb : Below W.heap.size W W') : LineIn w W' b c :=
  ⟨below_cell' hb (World.block_lt_of_cell? W _ h.tab) h.tab, heap_below h.spot hb, h.one.below hb, h.below.trans (hb.mono h.below.size)⟩

theorem hex_16408 : mkS (48 :: 120 :: hexM 16408) = ⟨#[48, 120, 52, 48, 49, 56]⟩ := by decide +kernel
theorem hex_8 : mkS (48 :: 120 :: hexM 8) = ⟨#[48, 120, 56]⟩ := by decide +kernel

theorem hex_a (w : World) (h : w.cell? ⟨2, 15, none⟩ = some (.int .u8 4)) : Calls Tryd.prog 17 #[.int .u64 16408] w fun e w' => e = .returned (.string ⟨#[48, 120, 52, 48, 49, 56]⟩) ∧ Below w.heap.size w w' := by
  have := sg_hex w 16408 (by omega) h
  rwa [hex_16408] at this
theorem hex_b (w : World) (h : w.cell? ⟨2, 15, none⟩ = some (.int .u8 4)) : Calls Tryd.prog 17 #[.int .u64 8] w fun e w' => e = .returned (.string ⟨#[48, 120, 56]⟩) ∧ Below w.heap.size w w' := by
  have := sg_hex w 8 (by omega) h
  rwa [hex_8] at this

set_option maxHeartbeats 2000000 in
theorem sg_line (w : World) (b c : Nat) (h : OneAt w b c) (ht : w.cell? ⟨2, 15, none⟩ = some (.int .u8 4)) :
    Calls Tryd.prog 10 #[.slice (some ⟨c, 0, none⟩) 1 1, .agg #[.bool true, .int .i64 0, .string ⟨#[97]⟩, .int .u64 8], .int .u64 16408] w fun e w' => e = .returned (.string ⟨#[48, 120, 52, 48, 49, 56, 32, 109, 32, 97, 43, 48, 120, 56]⟩) ∧ Below w.heap.size w w' := by
  have hb0 : Below w.heap.size w (w.alloc (.cells #[.bool true, .int .i64 0, .string ⟨#[97]⟩, .int .u64 8] 44)).drew := below_drewN ((Below.refl w.heap.size w).alloc (Nat.le_refl _) _) 1
  have hi : LineIn w (w.alloc (.cells #[.bool true, .int .i64 0, .string ⟨#[97]⟩, .int .u64 8] 44)).drew b c :=
    ⟨below_cell' hb0 (World.block_lt_of_cell? w _ ht) ht, heap_alloc_new w _, h.below hb0, hb0⟩
  have H := hid hi
  clear h ht hb0 hi
  go_enter Tryd.func10, Tryd.ntmps10
  go_wp2_with fail
  have hi := H.out
  go_region_held3 (fun W => W.cell? ⟨w.heap.size, 1, none⟩ = some (.int .i64 0) ∧ W.cell? ⟨w.heap.size, 2, none⟩ = some (.string ⟨#[97]⟩) ∧ W.cell? ⟨w.heap.size, 3, none⟩ = some (.int .u64 8) ∧ W.cell? ⟨c, 0, none⟩ = some (.string ⟨#[109]⟩)) (exact hi.all)
    (first
      | (go_at_call 17; (with_reducible refine (hex_a _ hi.tab).mono ?_); rintro e w1 ⟨rfl, hb⟩; have hi := hi.next hb; clear hb)
      | (go_at_call 17; (with_reducible refine (hex_b _ hi.tab).mono ?_); rintro e w1 ⟨rfl, hb⟩; have hi := hi.next hb; clear hb)
      | fail "no call")
  all_goals
    have Hi := hid hi.below
    clear hi
    go_wp2_with fail
    go_ret
    exact ⟨ret_str (by decide +kernel), Hi.out⟩

end Go.Proofs.YtdckfcpjdakjaaaDoor
