/- The walk of SymbolNamed's known, and of SymbolNamed. -/
import Derived.Test.YtdckfcpjdakjaaaDoorSgF
import Derived.Test.YtdckfcpjdakjaaaDoorSgA
namespace Go.Proofs.YtdckfcpjdakjaaaDoor
set_option linter.unusedSimpArgs false
set_option linter.unusedVariables false
open Go.RowKit

/-- What stands while known goes on. -/
structure KnIn (w W : World) (g X : Nat) : Prop where
  tab : W.cell? ⟨2, 15, none⟩ = some (.int .u8 4)
  list : ListAt W g
  sa : W.heap[X]? = some (.cells #[.bool true, .int .i64 0, .string ⟨#[97]⟩, .int .u64 8] 44 (0, 0))
  sb : W.heap[X + 1]? = some (.cells #[.bool true, .int .i64 0, .string ⟨#[]⟩, .int .u64 4] 44 (0, 0))
  below : Below w.heap.size w W

theorem KnIn.all {w W : World} {g X : Nat} (h : KnIn w W g X) : (W.cell? ⟨X, 0, none⟩ = some (.bool true) ∧ W.cell? ⟨X, 1, none⟩ = some (.int .i64 0) ∧ W.cell? ⟨X, 2, none⟩ = some (.string ⟨#[97]⟩) ∧ W.cell? ⟨X, 3, none⟩ = some (.int .u64 8)) ∧
    W.cell? ⟨X + 1, 0, none⟩ = some (.bool true) ∧ W.cell? ⟨X + 1, 1, none⟩ = some (.int .i64 0) ∧ W.cell? ⟨X + 1, 2, none⟩ = some (.string ⟨#[]⟩) ∧ W.cell? ⟨X + 1, 3, none⟩ = some (.int .u64 4) :=
  ⟨⟨cell_of_row _ _ 0 _ _ _ h.sa, cell_of_row _ _ 1 _ _ _ h.sa, cell_of_row _ _ 2 _ _ _ h.sa, cell_of_row _ _ 3 _ _ _ h.sa⟩, cell_of_row _ _ 0 _ _ _ h.sb, cell_of_row _ _ 1 _ _ _ h.sb, cell_of_row _ _ 2 _ _ _ h.sb, cell_of_row _ _ 3 _ _ _ h.sb⟩
theorem KnIn.next {w W W' : World} {g X : Nat} (h : KnIn w W g X) (hb : Below W.heap.size W W') : KnIn w W' g X :=
  ⟨below_cell' hb (World.block_lt_of_cell? W _ h.tab) h.tab, h.list.below hb, heap_below h.sa hb, heap_below h.sb hb, h.below.trans (hb.mono h.below.size)⟩

theorem sg_one' (w : World) : Calls Tryd.prog 9 #[] w fun e w' => ∃ b c, e = .returned (.slice (some ⟨c, 0, none⟩) 1 1) ∧ OneAt w' b c ∧ Below w.heap.size w w' :=
  (sg_one w).mono fun e w' h => ⟨_, _, h⟩

set_option maxRecDepth 100000 in
set_option maxHeartbeats 4000000 in
theorem sg_known (w : World) (ht : w.cell? ⟨2, 15, none⟩ = some (.int .u8 4)) : Calls Tryd.prog 5 #[] w fun e w' => e = .returned (.bool true) ∧ Below w.heap.size w w' := by
  obtain ⟨W0, hW0⟩ : ∃ W0, W0 = w.alloc (.cells #[.string ⟨#[98]⟩, .int .i64 0, .int .u64 16416, .bool false, .string ⟨#[97]⟩, .int .i64 0, .int .u64 16400, .bool false] 28) := ⟨_, rfl⟩
  have hb0 : Below w.heap.size w W0 := by rw [hW0]; exact (Below.refl _ _).alloc (Nat.le_refl _) _
  have hl0 : ListAt W0 w.heap.size := by rw [hW0]; exact heap_alloc_new w _
  have ht0 := below_cell' hb0 (World.block_lt_of_cell? w _ ht) ht
  have H := hid (And.intro hb0 (And.intro hl0 (And.intro ht0 hW0)))
  clear hb0 hl0 ht0 hW0 ht
  go_enter Tryd.func5, Tryd.ntmps5
  go_wp2_with fail
  refine (sg_one _).mono ?_
  rintro e w1 ⟨rfl, ho1, hb1⟩
  rw [← H.out.2.2.2] at hb1 ho1
  have hz0 : W0.heap.size = w.heap.size + 1 := by rw [H.out.2.2.2]; simp
  have hbw1 := H.out.1.trans (hb1.mono H.out.1.size)
  have hl1 := H.out.2.1.below hb1
  have ht1 := below_cell' hb1 (World.block_lt_of_cell? W0 _ H.out.2.2.1) H.out.2.2.1
  rw [hz0] at ho1
  have H1 := hid (And.intro ho1 (And.intro hbw1 (And.intro hl1 ht1)))
  clear hz0 hb1 ho1 hbw1 hl1 ht1
  go_wp2_with fail
  refine (sg_of_24 w1 _ _ _ H1.out.1 H1.out.2.2.1).mono ?_
  rintro e w2 ⟨rfl, hb2⟩
  have hbw2 := H1.out.2.1.trans (hb2.mono H1.out.2.1.size)
  have hl2 := H1.out.2.2.1.below hb2
  have ht2 := below_cell' hb2 (World.block_lt_of_cell? w1 _ H1.out.2.2.2) H1.out.2.2.2
  have H2 := hid (And.intro hbw2 (And.intro hl2 ht2))
  clear hb2 hbw2 hl2 ht2
  go_wp2_with fail
  refine (sg_one _).mono ?_
  rintro e w3 ⟨rfl, ho3, hb3⟩
  have hbw3 := H2.out.1.trans (hb3.mono H2.out.1.size)
  have hl3 := H2.out.2.1.below hb3
  have ht3 := below_cell' hb3 (World.block_lt_of_cell? w2 _ H2.out.2.2) H2.out.2.2
  have H3 := hid (And.intro ho3 (And.intro hbw3 (And.intro hl3 ht3)))
  clear hb3 ho3 hbw3 hl3 ht3
  go_wp2_with fail
  refine (sg_of_4 w3 _ _ _ H3.out.1 H3.out.2.2.1).mono ?_
  rintro e w4 ⟨rfl, hb4⟩
  have hb5 : Below w4.heap.size w4 ((w4.alloc (.cells #[.bool true, .int .i64 0, .string ⟨#[97]⟩, .int .u64 8] 44)).alloc (.cells #[.bool true, .int .i64 0, .string ⟨#[]⟩, .int .u64 4] 44)).drew := below_drewN (((Below.refl w4.heap.size w4).alloc (Nat.le_refl _) _).alloc (by simp) _) 1
  have hb35 := hb4.trans (hb5.mono hb4.size)
  have hi : KnIn w ((w4.alloc (.cells #[.bool true, .int .i64 0, .string ⟨#[97]⟩, .int .u64 8] 44)).alloc (.cells #[.bool true, .int .i64 0, .string ⟨#[]⟩, .int .u64 4] 44)).drew w.heap.size w4.heap.size :=
    ⟨below_cell' hb35 (World.block_lt_of_cell? w3 _ H3.out.2.2.2) H3.out.2.2.2, H3.out.2.2.1.below hb35, heap_alloc2_old w4 _ _, heap_alloc2_new w4 _ _, H3.out.2.1.trans (hb35.mono H3.out.2.1.size)⟩
  have H4 := hid hi
  clear hb4 hb5 hb35 hi
  go_wp2_with fail
  have hi := H4.out
  go_region_held3 (fun W => (W.cell? ⟨w4.heap.size, 0, none⟩ = some (.bool true) ∧ W.cell? ⟨w4.heap.size, 1, none⟩ = some (.int .i64 0) ∧ W.cell? ⟨w4.heap.size, 2, none⟩ = some (.string ⟨#[97]⟩) ∧ W.cell? ⟨w4.heap.size, 3, none⟩ = some (.int .u64 8)) ∧
    W.cell? ⟨w4.heap.size + 1, 0, none⟩ = some (.bool true) ∧ W.cell? ⟨w4.heap.size + 1, 1, none⟩ = some (.int .i64 0) ∧ W.cell? ⟨w4.heap.size + 1, 2, none⟩ = some (.string ⟨#[]⟩) ∧ W.cell? ⟨w4.heap.size + 1, 3, none⟩ = some (.int .u64 4)) (exact hi.all)
    (first
      | (go_at_call 9; (with_reducible refine (sg_one' _).mono ?_); rintro e w6 ⟨b6, c6, rfl, ho6, hb⟩; have hi := hi.next hb; clear hb)
      | (go_at_call 10; (with_reducible refine (sg_line _ _ _ ho6 hi.tab).mono ?_); rintro e w7 ⟨rfl, hb⟩; have hi := hi.next hb; clear hb ho6)
      | (go_at_call 8; (with_reducible refine (sg_of_none _ _ _ _ ho6 hi.list).mono ?_); rintro e w8 ⟨rfl, hb⟩; have hi := hi.next hb; clear hb)
      | fail "no call")
  all_goals
    have Hi := hid hi.below
    clear hi
    go_wp2_with fail
    go_ret
    exact ⟨rfl, Hi.out⟩

end Go.Proofs.YtdckfcpjdakjaaaDoor
