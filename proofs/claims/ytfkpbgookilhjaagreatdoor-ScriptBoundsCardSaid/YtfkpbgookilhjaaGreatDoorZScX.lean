/- A job without files: the loader's fault. -/
import Derived.Test.YtfkpbgookilhjaaGreatDoorZScV
import Derived.Deep.RegionHeld3
import Derived.Deep.RegionWith
namespace Go.Proofs.YtfkpbgookilhjaaGreatDoor
set_option linter.unusedSimpArgs false
set_option linter.unusedVariables false
open Go.RowKit

theorem ET.lt {w : World} (h : ET w) : 0 < w.heap.size := lt_of_cellB h
theorem ET.below {B : Nat} {w w' : World} (h : ET w) (hB : 0 < B) (hb : Below B w w') : ET w' := below_cell' (a := ⟨0, 0, none⟩) hb hB h
theorem FaultAt.cells {W : World} {b : Nat} {ph : Int} {nm : List UInt8} {er : Int} (h : W.heap[b]? = some (.cells #[.int .i64 ph, .string (mkS nm), .int .i64 er] 45 (0, 0))) :
    W.cell? ⟨b, 0, none⟩ = some (.int .i64 ph) ∧ W.cell? ⟨b, 1, none⟩ = some (.string (mkS nm)) ∧ W.cell? ⟨b, 2, none⟩ = some (.int .i64 er) := ⟨cell_of_row W b 0 _ _ _ h, cell_of_row W b 1 _ _ _ h, cell_of_row W b 2 _ _ _ h⟩

set_option maxHeartbeats 1000000 in
theorem gr_Load_no (w : World) (p ip : Option Addr) (fc ic ni : Nat) (main : List UInt8) (arch : Int) (base : Nat) (flat : Bool) (ha : arch = 1 ∨ arch = 2) (hE : ET w) :
    Calls Tryz.prog 98 #[.agg #[.slice p 0 fc, .string (mkS main), .slice ip ni ic, .int .i64 arch, .int .u64 (base : Int), .bool flat]] w fun e w' => e = .returned (.tuple #[.slice none 0 0, .slice none 0 0, .string (mkS main), .int .i64 17]) ∧ Below w.heap.size w w' := by
  have hb0 := (Below.refl w.heap.size w).alloc (Nat.le_refl _) (.cells #[.slice p 0 fc, .string (mkS main), .slice ip ni ic, .int .i64 arch, .int .u64 (base : Int), .bool flat] 27)
  have H0 := hid (And.intro hb0 hE)
  clear hb0 hE
  go_enter Tryz.func98, Tryz.ntmps98
  go_wp2_with fail
  refine (gr_all_no _ p ip fc ic ni main arch base flat ha).mono ?_
  rintro e w1 ⟨v, rfl, hf, hb1⟩
  obtain ⟨fb, rfl, hfb⟩ := hf
  have hb2 := H0.out.1.trans (hb1.mono (by simp))
  have hal : Below w1.heap.size w1 (w1.alloc (.cells #[.pointer none] 147)) := (Below.refl _ _).alloc (Nat.le_refl _) _
  have hfl := (Array.getElem?_eq_some_iff.1 hfb).1
  have hE2 : ET (w1.alloc (.cells #[.pointer none] 147)) := (H0.out.2.below H0.out.2.lt hb2).below (Nat.lt_of_lt_of_le H0.out.2.lt hb2.size) hal
  have hrow := heap_alloc_new w1 (.cells #[.pointer none] 147)
  have H1 := hid (And.intro ((hal.block fb hfl).trans hfb) (And.intro (hb2.trans (hal.mono hb2.size)) (And.intro hfl (And.intro hb2.size hE2))))
  clear hfb hb1 hb2 hal hfl hE2
  go_wp2_with fail
  refine (af_direct w1.heap.size ⟨fb, 0, none⟩ (.pointer none) _ H1.out.2.2.2.2 (cell_of_row _ w1.heap.size 0 _ _ _ hrow) (frozen_of_row _ w1.heap.size 0 _ _ hrow)).mono ?_
  rintro e w3 ⟨rfl, hbt, hg3⟩
  have hfb3 := (hg3.block fb (Array.getElem?_eq_some_iff.1 H1.out.1).1 (fun e => by cases e; exact Nat.lt_irrefl _ H1.out.2.2.1)).trans H1.out.1
  obtain ⟨y0, y1, y2⟩ := FaultAt.cells hfb3
  have hb3 : Below w.heap.size w w3 := Below.put H1.out.2.1 (Nat.le_refl _) H1.out.2.2.2.1 hg3
  have H3 := hid hb3
  clear hb3 hfb3 hg3 hrow y0
  go_wp2_with fail
  go_region
  go_wp2_with fail
  refine bodyPost_ret (v := .tuple #[.slice none 0 0, .slice none 0 0, .string (mkS main), .int .i64 17]) (by simp [results, Tryz.results98, go_sem]) rfl ?_
  exact ⟨rfl, ⟨H3.out.os, H3.out.tape, H3.out.output, H3.out.size, H3.out.block⟩⟩

set_option maxHeartbeats 1000000 in
theorem ld_images_no (w : World) (k : Nat) (p ip : Option Addr) (fc ic ni : Nat) (main : List UInt8) (arch : Int) (base : Nat) (flat : Bool) (ha : arch = 1 ∨ arch = 2) (hE : ET w) (hk : w.heap[k]? = some (.cells #[.slice p 0 fc, .string (mkS main), .slice ip ni ic, .int .i64 arch, .int .u64 (base : Int), .bool flat, .slice none 0 0, .slice none 0 0, .pointer none, .slice none 0 0, .slice none 0 0] 159 (0, 0))) :
    Calls Tryz.prog 87 #[.pointer (some ⟨k, 0, none⟩)] w fun e w' => ∃ v, e = .returned v ∧ FaultAt w' v 1 main 17 ∧ Below w.heap.size w w' := by
  have x0 : w.cell? ⟨k, 0, none⟩ = some (.slice p 0 fc) := cell_of_row w k 0 _ _ _ hk
  have x1 : w.cell? ⟨k, 1, none⟩ = some (.string (mkS main)) := cell_of_row w k 1 _ _ _ hk
  have x2 : w.cell? ⟨k, 2, none⟩ = some (.slice ip ni ic) := cell_of_row w k 2 _ _ _ hk
  have x3 : w.cell? ⟨k, 3, none⟩ = some (.int .i64 arch) := cell_of_row w k 3 _ _ _ hk
  have x4 : w.cell? ⟨k, 4, none⟩ = some (.int .u64 (base : Int)) := cell_of_row w k 4 _ _ _ hk
  have x5 : w.cell? ⟨k, 5, none⟩ = some (.bool flat) := cell_of_row w k 5 _ _ _ hk
  have H := hid hE
  clear hk hE
  go_enter Tryz.func87, Tryz.ntmps87
  go_wp2_with fail
  refine (gr_Load_no _ p ip fc ic ni main arch base flat ha H.out).mono ?_
  rintro e w1 ⟨rfl, hb1⟩
  have hal : Below w1.heap.size w1 (w1.alloc (.cells #[.int .i64 1, .string (mkS main), .int .i64 17] 45)) := (Below.refl _ _).alloc (Nat.le_refl _) _
  have H1 := hid (hb1.trans (hal.mono hb1.size))
  clear hb1 hal
  go_wp2_with fail
  go_ret
  exact ⟨_, rfl, ⟨_, rfl, heap_alloc_new w1 _⟩, H1.out⟩

theorem setSelf {W : World} {X : Nat} {t : TypeId} {vs : Array Value} (h : W.heap[X]? = some (.cells vs t (0, 0))) (i : Nat) (v : Value) (hi : vs[i]? = some v) : W.setCell ⟨X, i, none⟩ v = W := by
  have e : vs.setIfInBounds i v = vs := by
    apply Array.ext_getElem?
    intro j
    rw [Array.getElem?_setIfInBounds]
    split
    · rename_i hij
      subst hij
      split
      · exact hi.symm
      · rename_i hlt
        rw [Array.getElem?_eq_none (by omega)]
    · rfl
  have hh : (W.setCell ⟨X, i, none⟩ v).heap = W.heap := by
    apply Array.ext_getElem?
    intro j
    by_cases hj : j = X
    · subst hj
      rw [heap_setCell_same _ _ _ _ _ _ h, e]; exact h.symm
    · exact heap_setCell_other W _ j v (by simpa using hj)
  cases W with
  | mk heap tape drawn os output =>
    simp only [World.setCell] at hh ⊢
    rw [hh]

theorem alloc4 (w : World) (o1 o2 o3 o4 : Obj) :
    ((((w.alloc o1).alloc o2).alloc o3).alloc o4).heap[w.heap.size]? = some o1 ∧ ((((w.alloc o1).alloc o2).alloc o3).alloc o4).heap[w.heap.size + 1]? = some o2 ∧ ((((w.alloc o1).alloc o2).alloc o3).alloc o4).heap[w.heap.size + 1 + 1]? = some o3 ∧ ((((w.alloc o1).alloc o2).alloc o3).alloc o4).heap[w.heap.size + 1 + 1 + 1]? = some o4 ∧
    Below w.heap.size w ((((w.alloc o1).alloc o2).alloc o3).alloc o4) ∧ ((((w.alloc o1).alloc o2).alloc o3).alloc o4).heap.size = w.heap.size + 1 + 1 + 1 + 1 := by
  have e1 : (w.alloc o1).heap.size = w.heap.size + 1 := by simp
  have b1 : Below w.heap.size w (w.alloc o1) := (Below.refl _ _).alloc (Nat.le_refl _) _
  have r1 := heap_alloc_new w o1
  generalize w.alloc o1 = w1 at e1 b1 r1 ⊢
  have e2 : (w1.alloc o2).heap.size = w.heap.size + 1 + 1 := by simp [e1]
  have b2 : Below w1.heap.size w1 (w1.alloc o2) := (Below.refl _ _).alloc (Nat.le_refl _) _
  have r2 := heap_alloc_new w1 o2
  generalize w1.alloc o2 = w2 at e2 b2 r2 ⊢
  have e3 : (w2.alloc o3).heap.size = w.heap.size + 1 + 1 + 1 := by simp [e2]
  have b3 : Below w2.heap.size w2 (w2.alloc o3) := (Below.refl _ _).alloc (Nat.le_refl _) _
  have r3 := heap_alloc_new w2 o3
  generalize w2.alloc o3 = w3 at e3 b3 r3 ⊢
  have e4 : (w3.alloc o4).heap.size = w.heap.size + 1 + 1 + 1 + 1 := by simp [e3]
  have b4 : Below w3.heap.size w3 (w3.alloc o4) := (Below.refl _ _).alloc (Nat.le_refl _) _
  have r4 := heap_alloc_new w3 o4
  generalize w3.alloc o4 = w4 at e4 b4 r4 ⊢
  rw [e1] at r2
  rw [e2] at r3
  rw [e3] at r4
  refine ⟨(b4.block _ (by omega)).trans ((b3.block _ (by omega)).trans ((b2.block _ (by omega)).trans r1)), (b4.block _ (by omega)).trans ((b3.block _ (by omega)).trans r2), (b4.block _ (by omega)).trans r3, r4, b1.trans ((b2.trans ((b3.trans (b4.mono (by omega))).mono (by omega))).mono (by omega)), e4⟩

set_option maxHeartbeats 2000000 in
theorem ld_Load_no (w : World) (p ip : Option Addr) (fc ic ni : Nat) (main : List UInt8) (arch : Int) (base : Nat) (flat : Bool) (ha : arch = 1 ∨ arch = 2) (hE : ET w) :
    Calls Tryz.prog 85 #[.agg #[.slice p 0 fc, .string (mkS main), .slice ip ni ic, .int .i64 arch, .int .u64 (base : Int), .bool flat]] w fun e w' => ∃ v, e = .returned (.tuple #[.agg #[.slice none 0 0, .slice none 0 0, .slice none 0 0, .int .u64 0], v]) ∧ FaultAt w' v 1 main 17 ∧ Below w.heap.size w w' := by
  have HE := hid hE
  clear hE
  go_enter Tryz.func85, Tryz.ntmps85
  go_upto_region 3 with fail
  obtain ⟨-, r2, r3, r4, hb4, hs4⟩ := alloc4 w (.cells #[.slice p 0 fc, .string (mkS main), .slice ip ni ic, .int .i64 arch, .int .u64 (base : Int), .bool flat] 27) (.cells #[.slice none 0 0, .slice none 0 0, .slice none 0 0, .int .u64 0] 116) (.cells #[.slice p 0 fc, .string (mkS main), .slice ip ni ic, .int .i64 arch, .int .u64 (base : Int), .bool flat, .slice none 0 0, .slice none 0 0, .pointer none, .slice none 0 0, .slice none 0 0] 159) (.cells #[.func (.func 87) #[.pointer (some ⟨w.heap.size + 1 + 1, 0, none⟩)] #[], .func (.func 88) #[.pointer (some ⟨w.heap.size + 1 + 1, 0, none⟩)] #[], .func (.func 89) #[.pointer (some ⟨w.heap.size + 1 + 1, 0, none⟩)] #[], .func (.func 90) #[.pointer (some ⟨w.heap.size + 1 + 1, 0, none⟩)] #[], .func (.func 91) #[.pointer (some ⟨w.heap.size + 1 + 1, 0, none⟩)] #[]] 127)
  generalize ((((w.alloc (.cells #[.slice p 0 fc, .string (mkS main), .slice ip ni ic, .int .i64 arch, .int .u64 (base : Int), .bool flat] 27)).alloc (.cells #[.slice none 0 0, .slice none 0 0, .slice none 0 0, .int .u64 0] 116)).alloc (.cells #[.slice p 0 fc, .string (mkS main), .slice ip ni ic, .int .i64 arch, .int .u64 (base : Int), .bool flat, .slice none 0 0, .slice none 0 0, .pointer none, .slice none 0 0, .slice none 0 0] 159)).alloc (.cells #[.func (.func 87) #[.pointer (some ⟨w.heap.size + 1 + 1, 0, none⟩)] #[], .func (.func 88) #[.pointer (some ⟨w.heap.size + 1 + 1, 0, none⟩)] #[], .func (.func 89) #[.pointer (some ⟨w.heap.size + 1 + 1, 0, none⟩)] #[], .func (.func 90) #[.pointer (some ⟨w.heap.size + 1 + 1, 0, none⟩)] #[], .func (.func 91) #[.pointer (some ⟨w.heap.size + 1 + 1, 0, none⟩)] #[]] 127)) = W4 at r2 r3 r4 hb4 hs4 ⊢
  have hE4 := HE.out.below HE.out.lt hb4
  have c0 : W4.cell? ⟨w.heap.size + 1 + 1 + 1, 0, none⟩ = some (.func (.func 87) #[.pointer (some ⟨w.heap.size + 1 + 1, 0, none⟩)] #[]) := cell_of_row W4 _ 0 _ _ _ r4
  have H4 := hid (And.intro r2 (And.intro r3 (And.intro hb4 hE4)))
  clear r2 r3 r4 hE4
  refine wp_loop_rounds 1 ?_
  rw [rounds_succ]
  go_wp2_with fail
  refine (ld_images_no W4 _ p ip fc ic ni main arch base flat ha H4.out.2.2.2 H4.out.2.1).mono ?_
  rintro e w5 ⟨v, rfl, hf, hb5⟩
  obtain ⟨fb, rfl, hfb⟩ := hf
  have hr5 := (hb5.block _ (by omega)).trans H4.out.1
  have z0 : w5.cell? ⟨w.heap.size + 1, 0, none⟩ = some (.slice none 0 0) := cell_of_row w5 _ 0 _ _ _ hr5
  have z1 : w5.cell? ⟨w.heap.size + 1, 1, none⟩ = some (.slice none 0 0) := cell_of_row w5 _ 1 _ _ _ hr5
  have z2 : w5.cell? ⟨w.heap.size + 1, 2, none⟩ = some (.slice none 0 0) := cell_of_row w5 _ 2 _ _ _ hr5
  have z3 : w5.cell? ⟨w.heap.size + 1, 3, none⟩ = some (.int .u64 0) := cell_of_row w5 _ 3 _ _ _ hr5
  have zf := fun i => frozen_of_row w5 (w.heap.size + 1) i _ _ hr5
  have q0 := setSelf hr5 0 (.slice none 0 0) rfl
  have q1 := setSelf hr5 1 (.slice none 0 0) rfl
  have q2 := setSelf hr5 2 (.slice none 0 0) rfl
  have q3 := setSelf hr5 3 (.int .u64 0) rfl
  have H5 := hid (And.intro hfb (H4.out.2.2.1.trans (hb5.mono hb4.size)))
  clear hfb hb5 hr5
  go_wp2_with fail
  refine bodyPost_ret (v := .tuple #[.agg #[.slice none 0 0, .slice none 0 0, .slice none 0 0, .int .u64 0], .iface 147 (.pointer (some ⟨fb, 0, none⟩))]) (by simp [results, Tryz.results85, go_sem, z0, z1, z2, z3]) rfl ?_
  exact ⟨_, rfl, ⟨fb, rfl, H5.out.1⟩, H5.out.2⟩

theorem alloc3 (w : World) (o1 o2 o3 : Obj) :
    (((w.alloc o1).alloc o2).alloc o3).heap[w.heap.size]? = some o1 ∧ (((w.alloc o1).alloc o2).alloc o3).heap[w.heap.size + 1]? = some o2 ∧ (((w.alloc o1).alloc o2).alloc o3).heap[w.heap.size + 1 + 1]? = some o3 ∧
    Below w.heap.size w (((w.alloc o1).alloc o2).alloc o3) ∧ (((w.alloc o1).alloc o2).alloc o3).heap.size = w.heap.size + 1 + 1 + 1 := by
  have e1 : (w.alloc o1).heap.size = w.heap.size + 1 := by simp
  have b1 : Below w.heap.size w (w.alloc o1) := (Below.refl _ _).alloc (Nat.le_refl _) _
  have r1 := heap_alloc_new w o1
  generalize w.alloc o1 = w1 at e1 b1 r1 ⊢
  have e2 : (w1.alloc o2).heap.size = w.heap.size + 1 + 1 := by simp [e1]
  have b2 : Below w1.heap.size w1 (w1.alloc o2) := (Below.refl _ _).alloc (Nat.le_refl _) _
  have r2 := heap_alloc_new w1 o2
  generalize w1.alloc o2 = w2 at e2 b2 r2 ⊢
  have e3 : (w2.alloc o3).heap.size = w.heap.size + 1 + 1 + 1 := by simp [e2]
  have b3 : Below w2.heap.size w2 (w2.alloc o3) := (Below.refl _ _).alloc (Nat.le_refl _) _
  have r3 := heap_alloc_new w2 o3
  generalize w2.alloc o3 = w3 at e3 b3 r3 ⊢
  rw [e1] at r2
  rw [e2] at r3
  exact ⟨(b3.block _ (by omega)).trans ((b2.block _ (by omega)).trans r1), (b3.block _ (by omega)).trans r2, r3, b1.trans ((b2.trans (b3.mono (by omega))).mono (by omega)), e3⟩
theorem alloc2 (w : World) (o1 o2 : Obj) : ((w.alloc o1).alloc o2).heap[w.heap.size + 1]? = some o2 ∧ Below w.heap.size w ((w.alloc o1).alloc o2) ∧ ((w.alloc o1).alloc o2).heap.size = w.heap.size + 1 + 1 := by
  have e1 : (w.alloc o1).heap.size = w.heap.size + 1 := by simp
  have b1 : Below w.heap.size w (w.alloc o1) := (Below.refl _ _).alloc (Nat.le_refl _) _
  generalize w.alloc o1 = w1 at e1 b1 ⊢
  have e2 : (w1.alloc o2).heap.size = w.heap.size + 1 + 1 := by simp [e1]
  have b2 : Below w1.heap.size w1 (w1.alloc o2) := (Below.refl _ _).alloc (Nat.le_refl _) _
  have r2 := heap_alloc_new w1 o2
  rw [e1] at r2
  exact ⟨r2, b1.trans (b2.mono (by omega)), e2⟩

set_option maxHeartbeats 2000000 in
theorem ld_Run_no (w : World) (p ip : Option Addr) (fc ic ni : Nat) (main : List UInt8) (arch : Int) (base : Nat) (flat : Bool) (ha : arch = 1 ∨ arch = 2) (hE : ET w) :
    Calls Tryz.prog 69 #[.agg #[.slice p 0 fc, .string (mkS main), .slice ip ni ic, .int .i64 arch, .int .u64 (base : Int), .bool flat]] w fun e w' => e = .returned (.tuple #[.agg #[.slice none 0 0, .slice none 0 0, .slice none 0 0, .int .u64 0], .agg #[.int .i64 1, .string (mkS main), .int .i64 17]]) ∧ Below w.heap.size w w' := by
  have HE := hid hE
  clear hE
  go_enter Tryz.func69, Tryz.ntmps69
  go_upto_region 1 with fail
  obtain ⟨r0, r1, r2, hb3, hs3⟩ := alloc3 w (.cells #[.slice p 0 fc, .string (mkS main), .slice ip ni ic, .int .i64 arch, .int .u64 (base : Int), .bool flat] 27) (.cells #[.slice none 0 0, .slice none 0 0, .slice none 0 0, .int .u64 0] 116) (.cells #[.int .i64 0, .string ⟨#[]⟩, .int .i64 0] 45)
  generalize (((w.alloc (.cells #[.slice p 0 fc, .string (mkS main), .slice ip ni ic, .int .i64 arch, .int .u64 (base : Int), .bool flat] 27)).alloc (.cells #[.slice none 0 0, .slice none 0 0, .slice none 0 0, .int .u64 0] 116)).alloc (.cells #[.int .i64 0, .string ⟨#[]⟩, .int .i64 0] 45)) = W3 at r0 r1 r2 hb3 hs3 ⊢
  have hE3 := HE.out.below HE.out.lt hb3
  obtain ⟨x0, x1, x2, x3, x4, x5⟩ := row6 r0
  have H3 := hid (And.intro r1 (And.intro r2 (And.intro hb3 hE3)))
  clear r0 r1 r2 hE3
  go_wp2_with fail
  refine (ld_Load_no W3 p ip fc ic ni main arch base flat ha H3.out.2.2.2).mono ?_
  rintro e w4 ⟨v, rfl, hf, hb4⟩
  obtain ⟨fb, rfl, hfb⟩ := hf
  have hs4 := hb4.size
  have hb4' := H3.out.2.2.1.trans (hb4.mono hb3.size)
  have hfl := (Array.getElem?_eq_some_iff.1 hfb).1
  obtain ⟨q5, hb5, hs5⟩ := alloc2 w4 (.cells #[.slice none 0 0, .slice none 0 0, .slice none 0 0, .int .u64 0] 116) (.cells #[.pointer none] 147)
  have H4 := hid (And.intro ((hb5.block _ hfl).trans hfb) (And.intro ((hb5.block _ (by omega)).trans ((hb4.block _ (by omega)).trans H3.out.1)) (And.intro ((hb5.block _ (by omega)).trans ((hb4.block _ (by omega)).trans H3.out.2.1)) (And.intro (hb4'.trans (hb5.mono hb4'.size)) (And.intro ((H3.out.2.2.2.below H3.out.2.2.2.lt hb4).below (by have := H3.out.2.2.2.lt; omega) hb5) (And.intro q5 hfl))))))
  clear hfb hb4 hb4' hfl q5 x0 x1 x2 x3 x4 x5
  go_upto_region 3 with fail
  generalize ((w4.alloc (.cells #[.slice none 0 0, .slice none 0 0, .slice none 0 0, .int .u64 0] 116)).alloc (.cells #[.pointer none] 147)) = W5 at hb5 hs5 H4 ⊢
  go_wp2_with fail
  refine (af_direct (w4.heap.size + 1) ⟨fb, 0, none⟩ (.pointer none) W5 H4.out.2.2.2.2.1 (cell_of_row _ _ 0 _ _ _ H4.out.2.2.2.2.2.1) (frozen_of_row _ _ 0 _ _ H4.out.2.2.2.2.2.1)).mono ?_
  rintro e w6 ⟨rfl, hbt, hg6⟩
  have g0 := (hg6.block fb (by have := H4.out.2.2.2.2.2.2; omega) (fun e => by have h1 := Option.some.inj e; have := H4.out.2.2.2.2.2.2; omega)).trans H4.out.1
  have g1 := (hg6.block (w.heap.size + 1) (by omega) (fun e => by have h1 := Option.some.inj e; omega)).trans H4.out.2.1
  have g2 := (hg6.block (w.heap.size + 1 + 1) (by omega) (fun e => by have h1 := Option.some.inj e; omega)).trans H4.out.2.2.1
  have hb6 : Below w.heap.size w w6 := Below.put H4.out.2.2.2.1 (Nat.le_refl _) (by omega) hg6
  have H6 := hid (And.intro g0 (And.intro g1 (And.intro g2 hb6)))
  clear g0 g1 g2 hb6 hg6
  obtain ⟨y0, y1, y2⟩ := FaultAt.cells H6.out.1
  have z0 : w6.cell? ⟨w.heap.size + 1, 0, none⟩ = some (.slice none 0 0) := cell_of_row w6 _ 0 _ _ _ H6.out.2.1
  have z1 : w6.cell? ⟨w.heap.size + 1, 1, none⟩ = some (.slice none 0 0) := cell_of_row w6 _ 1 _ _ _ H6.out.2.1
  have z2 : w6.cell? ⟨w.heap.size + 1, 2, none⟩ = some (.slice none 0 0) := cell_of_row w6 _ 2 _ _ _ H6.out.2.1
  have z3 : w6.cell? ⟨w.heap.size + 1, 3, none⟩ = some (.int .u64 0) := cell_of_row w6 _ 3 _ _ _ H6.out.2.1
  have zf := fun i => frozen_of_row w6 (w.heap.size + 1) i _ _ H6.out.2.1
  have f0 : w6.cell? ⟨w.heap.size + 1 + 1, 0, none⟩ = some (.int .i64 0) := cell_of_row w6 _ 0 _ _ _ H6.out.2.2.1
  have f1 : w6.cell? ⟨w.heap.size + 1 + 1, 1, none⟩ = some (.string ⟨#[]⟩) := cell_of_row w6 _ 1 _ _ _ H6.out.2.2.1
  have f2 : w6.cell? ⟨w.heap.size + 1 + 1, 2, none⟩ = some (.int .i64 0) := cell_of_row w6 _ 2 _ _ _ H6.out.2.2.1
  have ff := fun i => frozen_of_row w6 (w.heap.size + 1 + 1) i _ _ H6.out.2.2.1
  have hrd : w6.drew.heap[w.heap.size + 1]? = some (.cells #[.slice none 0 0, .slice none 0 0, .slice none 0 0, .int .u64 0] 116 (0, 0)) := H6.out.2.1
  have q0 := setSelf hrd 0 (.slice none 0 0) rfl
  have q1 := setSelf hrd 1 (.slice none 0 0) rfl
  have q2 := setSelf hrd 2 (.slice none 0 0) rfl
  have q3 := setSelf hrd 3 (.int .u64 0) rfl
  clear hrd
  go_wp2_with fail
  go_region
  all_goals
    go_wp2_with fail
    obtain ⟨hg, hrow⟩ := put3 (i1 := 0) (i2 := 1) (i3 := 2) (.int .i64 1) (.string (mkS main)) (.int .i64 17) H6.out.2.2.1
    generalize ((w6.setCell ⟨w.heap.size + 1 + 1, 0, none⟩ (.int .i64 1)).setCell ⟨w.heap.size + 1 + 1, 1, none⟩ (.string (mkS main))).setCell ⟨w.heap.size + 1 + 1, 2, none⟩ (.int .i64 17) = W7 at hg hrow ⊢
    have hb7 : Below w.heap.size w W7 := Below.put H6.out.2.2.2 (Nat.le_refl _) (by omega) hg
    have hl7 := (hg.block (w.heap.size + 1) (Array.getElem?_eq_some_iff.1 H6.out.2.1).1 (fun e => by have h1 := Option.some.inj e; omega)).trans H6.out.2.1
    clear z0 z1 z2 z3 f0 f1 f2
    have z0 : W7.cell? ⟨w.heap.size + 1, 0, none⟩ = some (.slice none 0 0) := cell_of_row W7 _ 0 _ _ _ hl7
    have z1 : W7.cell? ⟨w.heap.size + 1, 1, none⟩ = some (.slice none 0 0) := cell_of_row W7 _ 1 _ _ _ hl7
    have z2 : W7.cell? ⟨w.heap.size + 1, 2, none⟩ = some (.slice none 0 0) := cell_of_row W7 _ 2 _ _ _ hl7
    have z3 : W7.cell? ⟨w.heap.size + 1, 3, none⟩ = some (.int .u64 0) := cell_of_row W7 _ 3 _ _ _ hl7
    have f0 : W7.cell? ⟨w.heap.size + 1 + 1, 0, none⟩ = some (.int .i64 1) := cell_of_row W7 _ 0 _ _ _ hrow
    have f1 : W7.cell? ⟨w.heap.size + 1 + 1, 1, none⟩ = some (.string (mkS main)) := cell_of_row W7 _ 1 _ _ _ hrow
    have f2 : W7.cell? ⟨w.heap.size + 1 + 1, 2, none⟩ = some (.int .i64 17) := cell_of_row W7 _ 2 _ _ _ hrow
    refine bodyPost_ret (v := .tuple #[.agg #[.slice none 0 0, .slice none 0 0, .slice none 0 0, .int .u64 0], .agg #[.int .i64 1, .string (mkS main), .int .i64 17]]) (by simp [results, Tryz.results69, go_sem, z0, z1, z2, z3, f0, f1, f2]) rfl ?_
    exact ⟨rfl, ⟨hb7.os, hb7.tape, hb7.output, hb7.size, hb7.block⟩⟩
end Go.Proofs.YtfkpbgookilhjaaGreatDoor
