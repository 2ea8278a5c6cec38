/- A slice of no bytes: no image stands there. -/
import Derived.Test.YtacmjpkcimjjpaaGreatDoorLyE
import Derived.Test.YtacmjpkcimjjpaaGreatDoorCurB
import Derived.Test.YtacmjpkcimjjpaaGreatDoorAsD
import Derived.Test.YtacmjpkcimjjpaaGreatDoorBigW
namespace Go.Proofs.YtacmjpkcimjjpaaGreatDoor
set_option linter.unusedSimpArgs false
set_option linter.unusedVariables false
open Go.RowKit

attribute [local go_sem ↓] old_img
attribute [local go_sem] big_img

set_option maxHeartbeats 400000 in
theorem clone_nil (w : World) : Calls Tryz.prog 116 #[.slice none 0 0] w fun e w' => e = .returned (.slice none 0 0) ∧ w = w' := by
  have hn := @Lib.run_eql_slice_nil Tryz.prog
  go_enter Tryz.func116, Tryz.ntmps116
  go_wp2_with fail
  go_ret
  exact ⟨rfl, rfl⟩

set_option maxHeartbeats 400000 in
theorem cur_new_nil (w : World) : Calls Tryz.prog 96 #[.slice none 0 0, .bool false] w fun e w' => e = .returned (.pointer (some ⟨w.heap.size, 0, none⟩)) ∧ w.alloc (.cells #[.slice none 0 0, .int .i64 0, .bool false, .bool false] 201) = w' := by
  go_enter Tryz.func96, Tryz.ntmps96
  go_wp2_with fail
  refine (clone_nil _).mono ?_
  rintro e w1 ⟨rfl, rfl⟩
  go_wp2_with fail
  go_ret
  exact ⟨rfl, rfl⟩

theorem below_drewN {B : Nat} {w w' : World} (h : Below B w w') (q : Nat) : Below B w (w'.drewN q) := ⟨h.os, h.tape, h.output, h.size, h.block⟩

theorem bcell {W w1 : World} (hb : Below W.heap.size W w1) : (∀ b o, b < W.heap.size → w1.cell? ⟨b, o, none⟩ = W.cell? ⟨b, o, none⟩) ∧ (∀ b o, b < W.heap.size → w1.frozen? ⟨b, o, none⟩ = W.frozen? ⟨b, o, none⟩) :=
  ⟨fun b o h => hb.cell (p := ⟨b, o, none⟩) h, fun b o h => hb.frozen (p := ⟨b, o, none⟩) h⟩

theorem cell_top (W : World) (vs : Array Value) (t : TypeId) (i B : Nat) (u : Value) (h : W.heap.size = B) (hu : vs[i]? = some u) : (W.alloc (.cells vs t)).cell? ⟨B, i, none⟩ = some u := by
  subst h
  rw [cell_of_row _ _ i _ _ _ (heap_alloc_new W _)]; exact hu

theorem top4 (w : World) {w1 : World} (o0 o1 o2 o3 : Obj) (hb : Below ((((w.alloc o0).alloc o1).alloc o2).alloc o3).heap.size ((((w.alloc o0).alloc o1).alloc o2).alloc o3) w1) :
    w1.heap[w.heap.size]? = some o0 ∧ w1.heap[w.heap.size + 1]? = some o1 ∧ w1.heap[w.heap.size + 1 + 1]? = some o2 := by
  have e1 : (w.alloc o0).heap.size = w.heap.size + 1 := by simp
  have e2 : ((w.alloc o0).alloc o1).heap.size = w.heap.size + 1 + 1 := by simp
  refine ⟨?_, ?_, ?_⟩
  · rw [hb.block _ (by simp <;> omega), Below.heap_alloc _ _ _ (by simp; omega), Below.heap_alloc _ _ _ (by simp; omega), Below.heap_alloc _ _ _ (by simp), heap_alloc_new]
  · rw [hb.block _ (by simp <;> omega), Below.heap_alloc _ _ _ (by simp), Below.heap_alloc _ _ _ (by simp), ← e1, heap_alloc_new]
  · rw [hb.block _ (by simp <;> omega), Below.heap_alloc _ _ _ (by simp), ← e2, heap_alloc_new]

theorem setCell_self {W : World} {X : Nat} {t : TypeId} {vs : Array Value} (h : RowAt W X t vs) (i : Nat) (v : Value) (hi : vs[i]? = some v) : W.setCell ⟨X, i, none⟩ v = W := by
  have e : vs.setIfInBounds i v = vs := by
    apply Array.ext_getElem?
    intro j
    rw [Array.getElem?_setIfInBounds]
    split
    · rename_i hij
      subst hij
      split
      · exact hi.symm
      · rename_i hlt
        rw [Array.getElem?_eq_none (by omega)]
    · rfl
  have hh : (W.setCell ⟨X, i, none⟩ v).heap = W.heap := by
    apply Array.ext_getElem?
    intro j
    by_cases hj : j = X
    · subst hj
      rw [heap_setCell_same _ _ _ _ _ _ h, e]; exact h.symm
    · exact heap_setCell_other W _ j v (by simpa using hj)
  cases W with
  | mk heap tape drawn os output =>
    simp only [World.setCell] at hh ⊢
    rw [hh]

theorem below_drew {B : Nat} {w w' : World} (h : Below B w w') : Below B w w'.drew := ⟨h.os, h.tape, h.output, h.size, h.block⟩
theorem grownBy_below' {w w' : World} (h : w.grownBy w' none) : Below w.heap.size w w' := ⟨h.os, h.tape, h.output, h.size, fun k hk => h.block k hk (by simp)⟩

/-- A header of zeroes. -/
def head0 : Value := .agg #[.int .i64 0, .int .i64 0, .int .u32 0, .int .i64 0, .int .i64 0]

set_option maxHeartbeats 800000 in
theorem head_short (c : Nat) (w : World) (hc : c < w.heap.size) (h0 : w.cell? ⟨c, 0, none⟩ = some (.slice none 0 0)) (h1 : w.cell? ⟨c, 1, none⟩ = some (.int .i64 ((0 : Nat) : Int))) :
    Calls Tryz.prog 97 #[.pointer (some ⟨c, 0, none⟩)] w fun e w' => e = .returned (.tuple #[head0, .iface 28 (.int .i64 3)]) ∧ Below w.heap.size w w' := by
  go_enter Tryz.func97, Tryz.ntmps97
  go_wp2_with fail
  have hne : c ≠ w.heap.size := by omega
  refine (cur_left c _ none 0 0 0 (Nat.le_refl _) (by omega) ((World.cell?_alloc_lt _ _ ⟨c, 0, none⟩ hc).trans h0) ((World.cell?_alloc_lt _ _ ⟨c, 1, none⟩ hc).trans h1)).mono ?_
  rintro e w1 ⟨rfl, q, rfl⟩
  go_wp2_with fail
  refine bodyPost_ret (v := .tuple #[head0, .iface 28 (.int .i64 3)]) (by simp [results, Tryz.results97, go_sem, head0]) rfl ⟨rfl, ?_⟩
  exact below_drewN ((Below.refl _ _).alloc (Nat.le_refl _) _) q

set_option maxHeartbeats 800000 in
theorem read_nil (w : World) : Calls Tryz.prog 71 #[.slice none 0 0] w fun e w' => e = .returned (.tuple #[head0, .slice none 0 0, .iface 28 (.int .i64 3)]) ∧ Below w.heap.size w w' := by
  go_enter Tryz.func71, Tryz.ntmps71
  go_wp2_with fail
  refine (cur_new_nil _).mono ?_
  rintro e w1 ⟨rfl, rfl⟩
  go_wp2_with fail
  refine (head_short _ _ (by simp) (cell_top _ _ _ 0 _ _ (by simp) rfl) (cell_top _ _ _ 1 _ _ (by simp) rfl)).mono ?_
  rintro e w1 ⟨rfl, hb⟩
  have H := hid hb
  have hz : w.heap.size + 1 + 1 + 1 + 1 ≤ w1.heap.size := by have := hb.size; simpa using this
  obtain ⟨b0, b1, b2⟩ := top4 w _ _ _ _ hb
  have a0 := (Below.heap_alloc w1 (.cells #[.int .i64 0, .int .i64 0, .int .u32 0, .int .i64 0, .int .i64 0] 141) w.heap.size (by omega)).trans b0
  have a1 := (Below.heap_alloc w1 (.cells #[.int .i64 0, .int .i64 0, .int .u32 0, .int .i64 0, .int .i64 0] 141) (w.heap.size + 1) (by omega)).trans b1
  have a2 := (Below.heap_alloc w1 (.cells #[.int .i64 0, .int .i64 0, .int .u32 0, .int .i64 0, .int .i64 0] 141) (w.heap.size + 1 + 1) (by omega)).trans b2
  have k0 := cell_of_row _ w.heap.size 0 _ _ _ a0
  have k01 := cell_of_row _ w.heap.size 1 _ _ _ a0
  have k02 := cell_of_row _ w.heap.size 2 _ _ _ a0
  have k03 := cell_of_row _ w.heap.size 3 _ _ _ a0
  have k04 := cell_of_row _ w.heap.size 4 _ _ _ a0
  have k1 := cell_of_row _ (w.heap.size + 1) 0 _ _ _ a1
  have k2 := cell_of_row _ (w.heap.size + 1 + 1) 0 _ _ _ a2
  have f0 := fun i => frozen_of_row _ w.heap.size i _ _ a0
  have f1 := frozen_of_row _ (w.heap.size + 1) 0 _ _ a1
  have f2 := frozen_of_row _ (w.heap.size + 1 + 1) 0 _ _ a2
  have s0 := setCell_self a0 0 (.int .i64 0) rfl
  have s1 := setCell_self a0 1 (.int .i64 0) rfl
  have s2 := setCell_self a0 2 (.int .u32 0) rfl
  have s3 := setCell_self a0 3 (.int .i64 0) rfl
  have s4 := setCell_self a0 4 (.int .i64 0) rfl
  have s5 := setCell_self a1 0 (.slice none 0 0) rfl
  have H2 := hid (And.intro a2 hz)
  clear hb a0 a1 a2 b0 b1 b2 hz
  unfold head0
  go_wp2_with fail
  refine bodyPost_ret (v := .tuple #[.agg #[.int .i64 0, .int .i64 0, .int .u32 0, .int .i64 0, .int .i64 0], .slice none 0 0, .iface 28 (.int .i64 3)]) (by simp [results, Tryz.results71, go_sem, k0, k01, k02, k03, k04, k1, k2]) rfl ⟨rfl, ?_⟩
  exact (((((((Below.refl _ _).alloc (Nat.le_refl _) _).alloc (by simp) _).alloc (by simp; omega) _).alloc (by simp; omega) _).trans (H.out.mono (by simp; omega))).alloc (by have := H2.out.2; omega) _).setCell (by simp; omega) _

/-- An error and a zero header. -/
def ErrHead (w : World) (e : Ending) (w' : World) : Prop := e = .returned (.tuple #[.agg #[.int .i64 0, .int .i64 0, .int .u32 0], .slice none 0 0, .int .i64 3]) ∧ Below w.heap.size w w'

set_option maxHeartbeats 800000 in
theorem read_nil' (w : World) (het : ET w) : Calls Tryz.prog 69 #[.slice none 0 0] w (ErrHead w) := by
  have H := hid het
  have hget := lt_of_cell het
  clear het
  go_enter Tryz.func69, Tryz.ntmps69
  go_wp2_with fail
  refine (read_nil _).mono ?_
  rintro e w1 ⟨rfl, hb⟩
  have b0 := (hb.block w.heap.size (by simp)).trans (heap_alloc_new w _)
  have hz := hb.size
  simp only [World.size_alloc] at hz
  have hbw : Below w.heap.size w w1 := ((Below.refl w.heap.size w).alloc (Nat.le_refl _) _).trans (hb.mono (by simp))
  have Hb := hid hbw
  have het1 : ET w1 := (hbw.cell (p := ⟨0, 0, none⟩) hget).trans H.out
  have a0 := (Below.heap_alloc w1 (.cells #[.int .i64 0, .int .i64 0, .int .u32 0, .int .i64 0, .int .i64 0] 141) w.heap.size (by omega)).trans b0
  have k0 := cell_of_row _ w.heap.size 0 _ _ _ a0
  have k01 := cell_of_row _ w.heap.size 1 _ _ _ a0
  have k02 := cell_of_row _ w.heap.size 2 _ _ _ a0
  have f0 := fun i => frozen_of_row _ w.heap.size i _ _ a0
  have s0 := setCell_self a0 0 (.int .i64 0) rfl
  have s1 := setCell_self a0 1 (.int .i64 0) rfl
  have s2 := setCell_self a0 2 (.int .u32 0) rfl
  have H2 := hid (And.intro a0 (And.intro hz het1))
  clear hb b0 hbw het1 a0 hz hget
  unfold head0
  go_wp2_with fail
  have hetA : ET (w1.alloc (.cells #[.int .i64 0, .int .i64 0, .int .u32 0, .int .i64 0, .int .i64 0] 141)) := ET.grown H2.out.2.2 (World.grownBy_alloc w1 _ none) (by simp)
  have Ht := hid hetA
  clear hetA
  go_region_with (go_at_call 72; refine (code_errno 3 _ (by exact Ht.out)).mono ?_; rintro e w2 ⟨rfl, hg⟩; have G := hid hg; have a2 := (hg.block w.heap.size (by have := H2.out.2.1; simp; omega) (by simp)).trans H2.out.1; have g0 := cell_of_row _ w.heap.size 0 _ _ _ a2; have g1 := cell_of_row _ w.heap.size 1 _ _ _ a2; have g2 := cell_of_row _ w.heap.size 2 _ _ _ a2; have gf := fun i => frozen_of_row _ w.heap.size i _ _ a2; have t0 := setCell_self a2 0 (.int .i64 0) rfl; have t1 := setCell_self a2 1 (.int .i64 0) rfl; have t2 := setCell_self a2 2 (.int .u32 0) rfl; have a3 := (hg.block w1.heap.size (by simp) (by simp)).trans (heap_alloc_new w1 _); have h0 := cell_of_row _ w1.heap.size 0 _ _ _ a3; have h1 := cell_of_row _ w1.heap.size 1 _ _ _ a3; have h2 := cell_of_row _ w1.heap.size 2 _ _ _ a3; clear hg a2 a3)
  all_goals
    go_wp2_with fail
    refine bodyPost_ret (v := .tuple #[.agg #[.int .i64 0, .int .i64 0, .int .u32 0], .slice none 0 0, .int .i64 3]) (by simp [results, Tryz.results69, go_sem, g0, g1, g2]) rfl ⟨rfl, ?_⟩
    have hz2 := H2.out.2.1
    have q := grownBy_below' G.out
    have q2 := q.mono (show w.heap.size ≤ _ by simp; omega)
    exact (below_drew (Hb.out.alloc (by omega) _)).trans q2

/-- 24 cells, each of them one. -/
def ImgOk (I : Array Value) : Prop := I.size = 24 ∧ I.all (·.oneCell') = true

/-- An error and an image. -/
def ErrImg (w : World) (n : Int) (e : Ending) (w' : World) : Prop := (∃ I : Array Value, e = .returned (.tuple #[.agg I, .int .i64 n]) ∧ ImgOk I) ∧ Below w.heap.size w w'

/-- The image of zeroes. -/
def img0 : Array Value := #[.int .i64 0, .int .i64 0, .int .u32 0, .string ⟨#[]⟩, .slice none 0 0, .slice none 0 0, .int .u64 0, .int .u64 0, .int .u64 0, .int .u64 0, .int .u64 0, .int .u64 0, .int .u64 0, .int .u64 0, .int .u64 0, .int .u64 0, .int .u64 0, .int .u64 0, .int .u64 0, .int .u64 0, .int .u64 0, .int .u64 0, .int .u64 0, .bool false]
theorem img0_size : img0.size = 24 := rfl
theorem img0_one : img0.all (·.oneCell') = true := by kernel_rfl

theorem img0_ok : ImgOk img0 := ⟨img0_size, img0_one⟩
theorem info_img : (Tryz.prog.info? 37).map (·.size) = some 24 := by kernel_rfl
theorem old_simg (a : Addr) (v : Value) : storeVar 37 a v = storeOld 37 a v := rfl
theorem big_simg (a : Addr) (I : Array Value) (w : World) (h : ImgOk I) : (storeOld 37 a (.agg I)).run Tryz.prog w = storeRes Tryz.prog 37 a I w (fullA w a 37 24) := storeVar_big info_img a I w h.1 h.2
theorem old_cimg (a : Addr) : loadCellsFrom a 0 24 #[] = cellsOld a 24 := rfl
theorem big_cimg (a : Addr) (w : World) : (cellsOld a 24).run Tryz.prog w = cellsRes Tryz.prog a 24 w (rowA w a 24) := cells_big a 24 w
theorem old_zimg : zeroValue 37 = zeroOld 37 := rfl
theorem big_zimg (w : World) : (zeroOld 37).run Tryz.prog w = .ok (.agg img0) w := by kernel_rfl
attribute [local go_sem ↓] old_simg old_cimg old_zimg
attribute [local go_sem] big_simg big_cimg big_zimg img0_ok

set_option maxHeartbeats 800000 in
set_option maxRecDepth 10000 in
theorem load_nil (w : World) (het : ET w) : Calls Tryz.prog 48 #[.slice none 0 0] w (ErrImg w 3) := by
  have H := hid het
  have hget := lt_of_cell het
  clear het
  go_enter Tryz.func48, Tryz.ntmps48
  go_wp2_with fail
  refine (read_nil' _ (ET.grown H.out (World.grownBy_alloc w _ none) (by simp))).mono ?_
  rintro e w1 ⟨rfl, hb⟩
  have b0 := (hb.block w.heap.size (by simp)).trans (heap_alloc_new w _)
  have hz := hb.size
  simp only [World.size_alloc] at hz
  have hbw : Below w.heap.size w w1 := ((Below.refl w.heap.size w).alloc (Nat.le_refl _) _).trans (hb.mono (by simp))
  have Hb := hid hbw
  have a0 := (Below.heap_alloc w1 (.cells #[.int .i64 0, .int .i64 0, .int .u32 0] 74) w.heap.size (by omega)).trans b0
  have fu := fullA_block a0 img0_size
  have s0 := setRow_self a0
  have r0 := rowA_block a0 img0_size
  have H2 := hid (And.intro a0 hz)
  clear hb b0 hbw a0 hz hget
  go_wp2_with fail
  refine bodyPost_ret (v := .tuple #[.agg img0, .int .i64 3]) (by simp [results, Tryz.results48, go_sem, r0]) rfl ⟨⟨_, rfl, img0_ok⟩, ?_⟩
  exact Hb.out.alloc (by have := H2.out.2; omega) _

set_option maxHeartbeats 800000 in
set_option maxRecDepth 10000 in
theorem of_nil (w : World) (het : ET w) : Calls Tryz.prog 28 #[.slice none 0 0] w (ErrImg w 3) := by
  have H := hid het
  have hget := lt_of_cell het
  clear het
  go_enter Tryz.func28, Tryz.ntmps28
  go_wp2_with fail
  refine (load_nil _ (ET.grown H.out (World.grownBy_alloc w _ none) (by simp))).mono ?_
  rintro e w1 ⟨⟨I, rfl, hI⟩, hb⟩
  have b0 := (hb.block w.heap.size (by simp)).trans (heap_alloc_new w _)
  have hz := hb.size
  simp only [World.size_alloc] at hz
  have hbw : Below w.heap.size w w1 := ((Below.refl w.heap.size w).alloc (Nat.le_refl _) _).trans (hb.mono (by simp))
  have Hb := hid hbw
  have a0 := (Below.heap_alloc w1 (.cells I 37) w.heap.size (by omega)).trans b0
  have fu := fullA_block a0 img0_size
  have fu1 := fullA_block (heap_alloc_new w1 (.cells img0 37)) img0_size
  have s0 := setRow_self a0
  have r0 := rowA_block a0 img0_size
  have H2 := hid (And.intro a0 hz)
  clear hb b0 hbw a0 hz hget
  go_wp2_with fail
  refine bodyPost_ret (v := .tuple #[.agg img0, .int .i64 3]) (by simp [results, Tryz.results28, go_sem, r0]) rfl ⟨⟨_, rfl, img0_ok⟩, ?_⟩
  exact Hb.out.alloc (by have := H2.out.2; omega) _

set_option maxHeartbeats 800000 in
set_option maxRecDepth 10000 in
theorem lay_nil (w : World) (s : Nat) (het : ET w) : Calls Tryz.prog 13 #[.pointer (some ⟨s, 0, none⟩), .slice none 0 0, .int .u64 0] w fun e w' => e = .returned (.int .i64 3) ∧ Below w.heap.size w w' := by
  have H := hid het
  clear het
  go_enter Tryz.func13, Tryz.ntmps13
  go_wp2_with fail
  refine (of_nil _ H.out).mono ?_
  rintro e w1 ⟨⟨I, rfl, hI⟩, hb⟩
  have fu1 := fullA_block (heap_alloc_new w1 (.cells img0 37)) img0_size
  have Hb := hid (hb.alloc hb.size (.cells I 37))
  clear hb
  go_wp2_with fail
  go_ret
  exact ⟨rfl, Hb.out⟩
end Go.Proofs.YtacmjpkcimjjpaaGreatDoor
