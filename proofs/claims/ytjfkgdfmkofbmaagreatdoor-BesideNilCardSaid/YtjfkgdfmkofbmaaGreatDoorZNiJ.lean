/- BesideNil: Jobs of a job without files. -/
import Derived.Test.YtjfkgdfmkofbmaaGreatDoorZNiA
import Derived.Test.YtjfkgdfmkofbmaaGreatDoorZAsF
namespace Go.Proofs.YtjfkgdfmkofbmaaGreatDoor
set_option linter.unusedSimpArgs false
set_option linter.unusedVariables false
open Go.RowKit

set_option maxHeartbeats 4000000 in
set_option maxRecDepth 8000 in
theorem ni_jobs (w : World) (main : List UInt8) (b : Value) (j2 : Array Value) (hj2 : b = .agg j2) (hs2 : ∃ a0 a1 a2 a3 a4 a5, j2 = #[a0, a1, a2, a3, a4, a5]) (hE : ET w) :
    Calls Tryz.prog 9 #[.agg #[.slice none 0 0, .string (mkS main), .slice none 0 0, .int .i64 1, .int .u64 0, .bool false], b] w fun e w' => e = .returned (.tuple #[.agg (besN none none none 0 0 0), .agg #[.int .i64 1, .string (mkS main), .int .i64 17]]) ∧ Below w.heap.size w w' := by
  obtain ⟨a0, a1, a2, a3, a4, a5, rfl⟩ := hs2
  subst hj2
  have hrun := fun W (hb : Below w.heap.size w W) => ld_Run_no W none none 0 0 0 main 1 0 false (.inl rfl) (hE.below hE.lt hb)
  obtain ⟨r1, -, r3, r4, hb4, hs4⟩ := alloc4 w (.cells #[.slice none 0 0, .string (mkS main), .slice none 0 0, .int .i64 1, .int .u64 0, .bool false] 53) (.cells #[a0, a1, a2, a3, a4, a5] 53) (.cells #[.slice none 0 0, .slice none 0 0, .bool false, .slice none 0 0, .slice none 0 0, .slice none 0 0, .slice none 0 0, .slice none 0 0, .slice none 0 0, .bool false] 30) (.cells #[.int .i64 0, .string ⟨#[]⟩, .int .i64 0] 47)
  have HR := hid hrun
  clear hrun hE
  unfold besN
  go_enter Tryz.func9, Tryz.ntmps9
  go_upto_region 1 with fail
  generalize ((((w.alloc (.cells #[.slice none 0 0, .string (mkS main), .slice none 0 0, .int .i64 1, .int .u64 0, .bool false] 53)).alloc (.cells #[a0, a1, a2, a3, a4, a5] 53)).alloc (.cells #[.slice none 0 0, .slice none 0 0, .bool false, .slice none 0 0, .slice none 0 0, .slice none 0 0, .slice none 0 0, .slice none 0 0, .slice none 0 0, .bool false] 30)).alloc (.cells #[.int .i64 0, .string ⟨#[]⟩, .int .i64 0] 47)) = V at r1 r3 r4 hb4 hs4 ⊢
  obtain ⟨x0, x1, x2, x3, x4, x5⟩ := row6 r1
  have HV := hid (And.intro r3 (And.intro r4 (And.intro hb4 hs4)))
  clear r1 r3 r4 hb4 hs4
  go_wp2_with fail
  refine (HR.out V HV.out.2.2.1).mono ?_
  rintro e w1 ⟨rfl, b1⟩
  have r3 := (b1.block _ (by rw [HV.out.2.2.2]; omega)).trans HV.out.1
  have r4 := (b1.block _ (by rw [HV.out.2.2.2]; omega)).trans HV.out.2.1
  have s1 : V.heap.size ≤ w1.heap.size := b1.size
  rw [HV.out.2.2.2] at s1
  have hb1 := HV.out.2.2.1.trans (b1.mono HV.out.2.2.1.size)
  obtain ⟨q0, q1, q2, hb3, hs3⟩ := alloc3X w1 (.cells #[.slice none 0 0, .slice none 0 0, .slice none 0 0, .int .u64 0] 38) (.cells #[.int .i64 1, .string (mkS main), .int .i64 17] 47) (.cells #[.int .i64 1, .string (mkS main), .int .i64 17] 47)
  obtain ⟨q1, hb2, hs2⟩ := alloc2X w1 (.cells #[.slice none 0 0, .slice none 0 0, .slice none 0 0, .int .u64 0] 38) (.cells #[.int .i64 1, .string (mkS main), .int .i64 17] 47)
  have r3 := (hb2.block _ (by omega)).trans r3
  have r4 := (hb2.block _ (by omega)).trans r4
  have hb := hb1.trans (hb2.mono hb1.size)
  clear q0 q2 hb3 hs3 b1 x0 x1 x2 x3 x4 x5
  have H := hid (And.intro r3 (And.intro r4 (And.intro q1 (And.intro hb (And.intro hs2 s1)))))
  clear r3 r4 q1 hb hb1 hb2 hs2 s1
  go_upto_region 2 with fail
  generalize ((w1.alloc (.cells #[.slice none 0 0, .slice none 0 0, .slice none 0 0, .int .u64 0] 38)).alloc (.cells #[.int .i64 1, .string (mkS main), .int .i64 17] 47)) = W at H ⊢
  obtain ⟨y0, y1, y2⟩ := FaultAt.cells H.out.2.2.1
  go_upto_region 3 with fail
  have z0 : W.cell? ⟨w.heap.size + 1 + 1, 0, none⟩ = some (.slice none 0 0) := cell_of_row W _ 0 _ _ _ H.out.1
  have z1 : W.cell? ⟨w.heap.size + 1 + 1, 1, none⟩ = some (.slice none 0 0) := cell_of_row W _ 1 _ _ _ H.out.1
  have z2 : W.cell? ⟨w.heap.size + 1 + 1, 2, none⟩ = some (.bool false) := cell_of_row W _ 2 _ _ _ H.out.1
  have z3 : W.cell? ⟨w.heap.size + 1 + 1, 3, none⟩ = some (.slice none 0 0) := cell_of_row W _ 3 _ _ _ H.out.1
  have z4 : W.cell? ⟨w.heap.size + 1 + 1, 4, none⟩ = some (.slice none 0 0) := cell_of_row W _ 4 _ _ _ H.out.1
  have z5 : W.cell? ⟨w.heap.size + 1 + 1, 5, none⟩ = some (.slice none 0 0) := cell_of_row W _ 5 _ _ _ H.out.1
  have z6 : W.cell? ⟨w.heap.size + 1 + 1, 6, none⟩ = some (.slice none 0 0) := cell_of_row W _ 6 _ _ _ H.out.1
  have z7 : W.cell? ⟨w.heap.size + 1 + 1, 7, none⟩ = some (.slice none 0 0) := cell_of_row W _ 7 _ _ _ H.out.1
  have z8 : W.cell? ⟨w.heap.size + 1 + 1, 8, none⟩ = some (.slice none 0 0) := cell_of_row W _ 8 _ _ _ H.out.1
  have z9 : W.cell? ⟨w.heap.size + 1 + 1, 9, none⟩ = some (.bool false) := cell_of_row W _ 9 _ _ _ H.out.1
  have zf := fun i => frozen_of_row W (w.heap.size + 1 + 1) i _ _ H.out.1
  have f0 : W.cell? ⟨w.heap.size + 1 + 1 + 1, 0, none⟩ = some (.int .i64 0) := cell_of_row W _ 0 _ _ _ H.out.2.1
  have f1 : W.cell? ⟨w.heap.size + 1 + 1 + 1, 1, none⟩ = some (.string ⟨#[]⟩) := cell_of_row W _ 1 _ _ _ H.out.2.1
  have f2 : W.cell? ⟨w.heap.size + 1 + 1 + 1, 2, none⟩ = some (.int .i64 0) := cell_of_row W _ 2 _ _ _ H.out.2.1
  have ff := fun i => frozen_of_row W (w.heap.size + 1 + 1 + 1) i _ _ H.out.2.1
  have hrd : W.drew.heap[w.heap.size + 1 + 1]? = some (.cells #[.slice none 0 0, .slice none 0 0, .bool false, .slice none 0 0, .slice none 0 0, .slice none 0 0, .slice none 0 0, .slice none 0 0, .slice none 0 0, .bool false] 30 (0, 0)) := H.out.1
  have q0 := setSelf hrd 0 (.slice none 0 0) rfl
  have q1 := setSelf hrd 1 (.slice none 0 0) rfl
  have q2 := setSelf hrd 2 (.bool false) rfl
  have q3 := setSelf hrd 3 (.slice none 0 0) rfl
  have q4 := setSelf hrd 4 (.slice none 0 0) rfl
  have q5 := setSelf hrd 5 (.slice none 0 0) rfl
  have q6 := setSelf hrd 6 (.slice none 0 0) rfl
  have q7 := setSelf hrd 7 (.slice none 0 0) rfl
  have q8 := setSelf hrd 8 (.slice none 0 0) rfl
  have q9 := setSelf hrd 9 (.bool false) rfl
  clear hrd
  go_wp2_with fail
  go_region
  all_goals
    go_wp2_with fail
    obtain ⟨hg, hrow⟩ := put3 (i1 := 0) (i2 := 1) (i3 := 2) (.int .i64 1) (.string (mkS main)) (.int .i64 17) H.out.2.1
    generalize ((W.setCell ⟨w.heap.size + 1 + 1 + 1, 0, none⟩ (.int .i64 1)).setCell ⟨w.heap.size + 1 + 1 + 1, 1, none⟩ (.string (mkS main))).setCell ⟨w.heap.size + 1 + 1 + 1, 2, none⟩ (.int .i64 17) = W7 at hg hrow ⊢
    have hb7 : Below w.heap.size w W7 := Below.put H.out.2.2.2.1 (Nat.le_refl _) (by omega) hg
    have hl7 := (hg.block (w.heap.size + 1 + 1) (Array.getElem?_eq_some_iff.1 H.out.1).1 (fun e => by have h1 := Option.some.inj e; omega)).trans H.out.1
    clear z0 z1 z2 z3 z4 z5 z6 z7 z8 z9 f0 f1 f2
    have z0 : W7.cell? ⟨w.heap.size + 1 + 1, 0, none⟩ = some (.slice none 0 0) := cell_of_row W7 _ 0 _ _ _ hl7
    have z1 : W7.cell? ⟨w.heap.size + 1 + 1, 1, none⟩ = some (.slice none 0 0) := cell_of_row W7 _ 1 _ _ _ hl7
    have z2 : W7.cell? ⟨w.heap.size + 1 + 1, 2, none⟩ = some (.bool false) := cell_of_row W7 _ 2 _ _ _ hl7
    have z3 : W7.cell? ⟨w.heap.size + 1 + 1, 3, none⟩ = some (.slice none 0 0) := cell_of_row W7 _ 3 _ _ _ hl7
    have z4 : W7.cell? ⟨w.heap.size + 1 + 1, 4, none⟩ = some (.slice none 0 0) := cell_of_row W7 _ 4 _ _ _ hl7
    have z5 : W7.cell? ⟨w.heap.size + 1 + 1, 5, none⟩ = some (.slice none 0 0) := cell_of_row W7 _ 5 _ _ _ hl7
    have z6 : W7.cell? ⟨w.heap.size + 1 + 1, 6, none⟩ = some (.slice none 0 0) := cell_of_row W7 _ 6 _ _ _ hl7
    have z7 : W7.cell? ⟨w.heap.size + 1 + 1, 7, none⟩ = some (.slice none 0 0) := cell_of_row W7 _ 7 _ _ _ hl7
    have z8 : W7.cell? ⟨w.heap.size + 1 + 1, 8, none⟩ = some (.slice none 0 0) := cell_of_row W7 _ 8 _ _ _ hl7
    have z9 : W7.cell? ⟨w.heap.size + 1 + 1, 9, none⟩ = some (.bool false) := cell_of_row W7 _ 9 _ _ _ hl7
    have f0 : W7.cell? ⟨w.heap.size + 1 + 1 + 1, 0, none⟩ = some (.int .i64 1) := cell_of_row W7 _ 0 _ _ _ hrow
    have f1 : W7.cell? ⟨w.heap.size + 1 + 1 + 1, 1, none⟩ = some (.string (mkS main)) := cell_of_row W7 _ 1 _ _ _ hrow
    have f2 : W7.cell? ⟨w.heap.size + 1 + 1 + 1, 2, none⟩ = some (.int .i64 17) := cell_of_row W7 _ 2 _ _ _ hrow
    refine bodyPost_ret (v := .tuple #[.agg #[.slice none 0 0, .slice none 0 0, .bool false, .slice none 0 0, .slice none 0 0, .slice none 0 0, .slice none 0 0, .slice none 0 0, .slice none 0 0, .bool false], .agg #[.int .i64 1, .string (mkS main), .int .i64 17]]) (by simp [results, Tryz.results9, go_sem, z0, z1, z2, z3, z4, z5, z6, z7, z8, z9, f0, f1, f2]) rfl ?_
    exact ⟨rfl, ⟨hb7.os, hb7.tape, hb7.output, hb7.size, hb7.block⟩⟩
end Go.Proofs.YtjfkgdfmkofbmaaGreatDoor
