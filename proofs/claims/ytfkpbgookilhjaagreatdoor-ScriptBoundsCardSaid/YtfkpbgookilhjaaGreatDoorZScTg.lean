/- The reference's MayTell of a fault. Printed by gen_rtmay.py. -/
import Derived.Test.YtfkpbgookilhjaaGreatDoorZScTx
import Derived.Test.YtfkpbgookilhjaaGreatDoorZScTo
namespace Go.Proofs.YtfkpbgookilhjaaGreatDoor
set_option linter.unusedSimpArgs false
set_option linter.unusedVariables false
open Go.RowKit

theorem mayFault_iff (t : ToldV) : mayFault t.m = true ↔ (t.seats.length = 0 ∧ t.mem.length = 0 ∧ t.inits.length = 0 ∧ t.entry = 0 ∧ 0 ≤ t.ph ∧ t.ph ≤ 255 ∧ 1 ≤ t.er ∧ t.er ≤ 255 ∧ t.img.length ≤ 65535) := by
  unfold mayFault inB2 ToldV.m
  simp only [Bool.and_eq_true, decide_eq_true_eq, List.length_map]
  constructor
  · rintro ⟨⟨⟨⟨h1, h2⟩, h3, h4⟩, h5, h6⟩, h7⟩
    exact ⟨by omega, by omega, by omega, h2, h3, h4, h5, h6, h7⟩
  · rintro ⟨h1, h2, h3, h4, h5, h6, h7, h8, h9⟩
    exact ⟨⟨⟨⟨by omega, h4⟩, h5, h6⟩, h7, h8⟩, h9⟩
theorem bool_no {b : Bool} (h : ¬ b = true) : b = false := by cases b <;> simp_all

/-- What stands while the reference tries a told value: the fault's copy behind it. -/
structure RtIn (w W : World) (t : ToldV) : Prop where
  box : ToldBox W w.heap.size t.h
  flt : W.heap[w.heap.size + 1]? = some (.cells #[.int .i64 t.ph, .string (mkS t.img), .int .i64 t.er] 45 (0, 0))
  bel : Below w.heap.size w W
theorem RtIn.new (w : World) (t : ToldV) : RtIn w ((w.alloc (.cells t.h.cells 49)).alloc (.cells #[.int .i64 t.ph, .string (mkS t.img), .int .i64 t.er] 45)) t := by
  obtain ⟨h1, h2, h3⟩ := alloc2 w (.cells t.h.cells 49) (.cells #[.int .i64 t.ph, .string (mkS t.img), .int .i64 t.er] 45)
  refine ⟨?_, h1, h2⟩
  have e1 : (w.alloc (.cells t.h.cells 49)).heap.size = w.heap.size + 1 := by simp
  have b2 : Below (w.alloc (.cells t.h.cells 49)).heap.size (w.alloc (.cells t.h.cells 49)) ((w.alloc (.cells t.h.cells 49)).alloc (.cells #[.int .i64 t.ph, .string (mkS t.img), .int .i64 t.er] 45)) := (Below.refl _ _).alloc (Nat.le_refl _) _
  exact (b2.block _ (by omega)).trans (heap_alloc_new w _)
theorem RtIn.fs {w W : World} {t : ToldV} (h : RtIn w W t) : W.cell? ⟨w.heap.size + 1, 0, none⟩ = some (.int .i64 t.ph) ∧ W.cell? ⟨w.heap.size + 1, 1, none⟩ = some (.string (mkS t.img)) ∧ W.cell? ⟨w.heap.size + 1, 2, none⟩ = some (.int .i64 t.er) := FaultAt.cells h.flt
theorem RtIn.below {w W W' : World} {t : ToldV} (h : RtIn w W t) (hb : Below W.heap.size W W') : RtIn w W' t := ⟨h.box.below hb, (hb.block _ (Array.getElem?_eq_some_iff.1 h.flt).1).trans h.flt, h.bel.trans (hb.mono h.bel.size)⟩
theorem RtIn.drewN {w W : World} {t : ToldV} (h : RtIn w W t) (q : Nat) : RtIn w (W.drewN q) t := ⟨h.box, h.flt, ⟨h.bel.os, h.bel.tape, h.bel.output, h.bel.size, h.bel.block⟩⟩

set_option maxHeartbeats 4000000 in
set_option maxRecDepth 10000 in
theorem rt_may_fault (w : World) (t : ToldV) (her : t.er ≠ 0) : Calls Tryz.prog 17 #[.agg t.h.cells] w fun e w' => e = .returned (.bool (mayFault t.m)) ∧ Below w.heap.size w w' := by
  have hn : (t.er != 0) = true := by unfold bne; rw [beq_eq_false_iff_ne.2 her]; rfl
  obtain ⟨R, hR⟩ : ∃ R, R = mayFault t.m := ⟨_, rfl⟩
  rw [← hR]
  obtain ⟨W, hW⟩ : ∃ W, W = ((w.alloc (.cells #[.int .i64 t.ph, .string (mkS t.img), .int .i64 t.er, .slice t.sp t.seats.length t.sc, .slice t.mp t.mem.length t.mc, .slice t.np t.inits.length t.nc, .int .u64 (t.entry : Int)] 49)).alloc (.cells #[.int .i64 t.ph, .string (mkS t.img), .int .i64 t.er] 45)) := ⟨_, rfl⟩
  have hi : RtIn w W t := by rw [hW]; exact RtIn.new w t
  have H := hid (And.intro hi (And.intro hW.symm hR))
  obtain ⟨x0, x1, x2, x3, x4, x5, x6⟩ := hi.box.atV
  obtain ⟨f0, f1, f2⟩ := hi.fs
  obtain ⟨g0, g1, g2, g3, g4, g5, g6⟩ := (ToldBox.new w t.h).atV
  clear hi hW hR her
  show Calls Tryz.prog 17 #[.agg #[.int .i64 t.ph, .string (mkS t.img), .int .i64 t.er, .slice t.sp t.seats.length t.sc, .slice t.mp t.mem.length t.mc, .slice t.np t.inits.length t.nc, .int .u64 (t.entry : Int)]] w _
  by_cases c0 : t.seats.length = 0
  case neg =>
    have e0 : ((t.seats.length : Int) == 0) = false := by rw [beq_eq_false_iff_ne]; omega
    have d0 : decide (t.seats.length = 0) = false := decide_eq_false c0
    have hno : R = false := by rw [H.out.2.2]; exact bool_no fun hh => c0 ((mayFault_iff t).1 hh).1
    rw [hno]
    clear hno
    go_enter Tryz.func17, Tryz.ntmps17
    go_upto_region 2 with fail
    rw [H.out.2.1]
    go_wp2_with fail
    go_ret
    exact ⟨by first | rfl | simp, H.out.1.bel⟩
  have e0 : ((t.seats.length : Int) == 0) = true := by rw [beq_iff_eq]; omega
  have d0 : decide (t.seats.length = 0) = true := decide_eq_true c0
  have C0 := hid c0
  clear c0
  by_cases c1 : t.mem.length = 0
  case neg =>
    have e1 : ((t.mem.length : Int) == 0) = false := by rw [beq_eq_false_iff_ne]; omega
    have d1 : decide (t.mem.length = 0) = false := decide_eq_false c1
    have hno : R = false := by rw [H.out.2.2]; exact bool_no fun hh => c1 ((mayFault_iff t).1 hh).2.1
    rw [hno]
    clear hno
    go_enter Tryz.func17, Tryz.ntmps17
    go_upto_region 2 with fail
    rw [H.out.2.1]
    go_wp2_with fail
    go_ret
    exact ⟨by first | rfl | simp, H.out.1.bel⟩
  have e1 : ((t.mem.length : Int) == 0) = true := by rw [beq_iff_eq]; omega
  have d1 : decide (t.mem.length = 0) = true := decide_eq_true c1
  have C1 := hid c1
  clear c1
  by_cases c2 : t.inits.length = 0
  case neg =>
    have e2 : ((t.inits.length : Int) == 0) = false := by rw [beq_eq_false_iff_ne]; omega
    have d2 : decide (t.inits.length = 0) = false := decide_eq_false c2
    have hno : R = false := by rw [H.out.2.2]; exact bool_no fun hh => c2 ((mayFault_iff t).1 hh).2.2.1
    rw [hno]
    clear hno
    go_enter Tryz.func17, Tryz.ntmps17
    go_upto_region 2 with fail
    rw [H.out.2.1]
    go_wp2_with fail
    go_ret
    exact ⟨by first | rfl | simp, H.out.1.bel⟩
  have e2 : ((t.inits.length : Int) == 0) = true := by rw [beq_iff_eq]; omega
  have d2 : decide (t.inits.length = 0) = true := decide_eq_true c2
  have C2 := hid c2
  clear c2
  by_cases c3 : t.entry = 0
  case neg =>
    have e3 : ((t.entry : Int) == 0) = false := by rw [beq_eq_false_iff_ne]; omega
    have d3 : decide (t.entry = 0) = false := decide_eq_false c3
    have hno : R = false := by rw [H.out.2.2]; exact bool_no fun hh => c3 ((mayFault_iff t).1 hh).2.2.2.1
    rw [hno]
    clear hno
    go_enter Tryz.func17, Tryz.ntmps17
    go_upto_region 2 with fail
    rw [H.out.2.1]
    go_wp2_with fail
    go_ret
    exact ⟨by first | rfl | simp, H.out.1.bel⟩
  have e3 : ((t.entry : Int) == 0) = true := by rw [beq_iff_eq]; omega
  have d3 : decide (t.entry = 0) = true := decide_eq_true c3
  have C3 := hid c3
  clear c3
  by_cases c4 : 0 ≤ t.ph
  case neg =>
    have e4 : decide (0 ≤ t.ph) = false := decide_eq_false c4
    have hno : R = false := by rw [H.out.2.2]; exact bool_no fun hh => c4 ((mayFault_iff t).1 hh).2.2.2.2.1
    rw [hno]
    clear hno
    go_enter Tryz.func17, Tryz.ntmps17
    go_upto_region 2 with fail
    rw [H.out.2.1]
    go_wp2_with fail
    go_ret
    exact ⟨by first | rfl | simp, H.out.1.bel⟩
  have e4 : decide (0 ≤ t.ph) = true := decide_eq_true c4
  have C4 := hid c4
  clear c4
  by_cases c5 : t.ph ≤ 255
  case neg =>
    have e5 : decide (t.ph ≤ 255) = false := decide_eq_false c5
    have hno : R = false := by rw [H.out.2.2]; exact bool_no fun hh => c5 ((mayFault_iff t).1 hh).2.2.2.2.2.1
    rw [hno]
    clear hno
    go_enter Tryz.func17, Tryz.ntmps17
    go_upto_region 2 with fail
    rw [H.out.2.1]
    go_wp2_with fail
    go_ret
    exact ⟨by first | rfl | simp, H.out.1.bel⟩
  have e5 : decide (t.ph ≤ 255) = true := decide_eq_true c5
  have C5 := hid c5
  clear c5
  by_cases c6 : 1 ≤ t.er
  case neg =>
    have e6 : decide (1 ≤ t.er) = false := decide_eq_false c6
    have hno : R = false := by rw [H.out.2.2]; exact bool_no fun hh => c6 ((mayFault_iff t).1 hh).2.2.2.2.2.2.1
    rw [hno]
    clear hno
    go_enter Tryz.func17, Tryz.ntmps17
    go_upto_region 2 with fail
    rw [H.out.2.1]
    go_wp2_with fail
    go_ret
    exact ⟨by first | rfl | simp, H.out.1.bel⟩
  have e6 : decide (1 ≤ t.er) = true := decide_eq_true c6
  have C6 := hid c6
  clear c6
  by_cases c7 : t.er ≤ 255
  case neg =>
    have e7 : decide (t.er ≤ 255) = false := decide_eq_false c7
    have hno : R = false := by rw [H.out.2.2]; exact bool_no fun hh => c7 ((mayFault_iff t).1 hh).2.2.2.2.2.2.2.1
    rw [hno]
    clear hno
    go_enter Tryz.func17, Tryz.ntmps17
    go_upto_region 2 with fail
    rw [H.out.2.1]
    go_wp2_with fail
    go_ret
    exact ⟨by first | rfl | simp, H.out.1.bel⟩
  have e7 : decide (t.er ≤ 255) = true := decide_eq_true c7
  have C7 := hid c7
  clear c7
  by_cases c8 : t.img.length ≤ 65535
  case neg =>
    have e8 : decide ((t.img.length : Int) ≤ 65535) = false := decide_eq_false (by omega)
    have d8 : decide (t.img.length ≤ 65535) = false := decide_eq_false c8
    have hno : R = false := by rw [H.out.2.2]; exact bool_no fun hh => c8 ((mayFault_iff t).1 hh).2.2.2.2.2.2.2.2
    rw [hno]
    clear hno
    go_enter Tryz.func17, Tryz.ntmps17
    go_upto_region 2 with fail
    rw [H.out.2.1]
    go_wp2_with fail
    go_ret
    exact ⟨by first | rfl | simp, H.out.1.bel⟩
  have e8 : decide ((t.img.length : Int) ≤ 65535) = true := decide_eq_true (by omega)
  have d8 : decide (t.img.length ≤ 65535) = true := decide_eq_true c8
  have C8 := hid c8
  clear c8
  have hyes : R = true := by rw [H.out.2.2]; exact (mayFault_iff t).2 ⟨C0.out, C1.out, C2.out, C3.out, C4.out, C5.out, C6.out, C7.out, C8.out⟩
  rw [hyes]
  clear hyes
  go_enter Tryz.func17, Tryz.ntmps17
  go_upto_region 2 with fail
  rw [H.out.2.1]
  go_wp2_with fail
  go_ret
  exact ⟨by first | rfl | simp, H.out.1.bel⟩
end Go.Proofs.YtfkpbgookilhjaaGreatDoor
