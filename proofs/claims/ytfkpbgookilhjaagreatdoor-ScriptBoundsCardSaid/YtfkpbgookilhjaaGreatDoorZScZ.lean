/- A job without files, run; the chapter's row (known). -/
import Derived.Test.YtfkpbgookilhjaaGreatDoorZScY
import Derived.Test.YtfkpbgookilhjaaGreatDoorZScJ
import Derived.Test.YtfkpbgookilhjaaGreatDoorZPlain
namespace Go.Proofs.YtfkpbgookilhjaaGreatDoor
set_option linter.unusedSimpArgs false
set_option linter.unusedVariables false
open Go.RowKit

def faultH (ph : Int) (img : List UInt8) (er : Int) : ToldH := ⟨ph, img, er, none, 0, 0, none, 0, 0, none, 0, 0, 0⟩
theorem put7 {W : World} {J : Nat} {c0 c1 c2 c3 c4 c5 c6 : Value} {t : TypeId} (u0 u1 u2 u3 u4 u5 u6 : Value) (h : W.heap[J]? = some (.cells #[c0, c1, c2, c3, c4, c5, c6] t (0, 0))) :
    W.grownBy (((((((W.setCell ⟨J, 0, none⟩ u0).setCell ⟨J, 1, none⟩ u1).setCell ⟨J, 2, none⟩ u2).setCell ⟨J, 3, none⟩ u3).setCell ⟨J, 4, none⟩ u4).setCell ⟨J, 5, none⟩ u5).setCell ⟨J, 6, none⟩ u6) (some J) ∧ (((((((W.setCell ⟨J, 0, none⟩ u0).setCell ⟨J, 1, none⟩ u1).setCell ⟨J, 2, none⟩ u2).setCell ⟨J, 3, none⟩ u3).setCell ⟨J, 4, none⟩ u4).setCell ⟨J, 5, none⟩ u5).setCell ⟨J, 6, none⟩ u6).heap[J]? = some (.cells #[u0, u1, u2, u3, u4, u5, u6] t (0, 0)) := by
  obtain ⟨a1, a2⟩ := put3 (i1 := 0) (i2 := 1) (i3 := 2) u0 u1 u2 h
  rw [show ((#[c0, c1, c2, c3, c4, c5, c6].setIfInBounds 0 u0).setIfInBounds 1 u1).setIfInBounds 2 u2 = #[u0, u1, u2, c3, c4, c5, c6] from rfl] at a2
  generalize ((W.setCell ⟨J, 0, none⟩ u0).setCell ⟨J, 1, none⟩ u1).setCell ⟨J, 2, none⟩ u2 = W1 at a1 a2 ⊢
  obtain ⟨b1, b2⟩ := put3 (i1 := 3) (i2 := 4) (i3 := 5) u3 u4 u5 a2
  rw [show ((#[u0, u1, u2, c3, c4, c5, c6].setIfInBounds 3 u3).setIfInBounds 4 u4).setIfInBounds 5 u5 = #[u0, u1, u2, u3, u4, u5, c6] from rfl] at b2
  generalize ((W1.setCell ⟨J, 3, none⟩ u3).setCell ⟨J, 4, none⟩ u4).setCell ⟨J, 5, none⟩ u5 = W2 at b1 b2 ⊢
  obtain ⟨d1, d2⟩ := put1 (i := 6) u6 b2
  exact ⟨grownBy_tr a1 (grownBy_tr b1 d1), d2⟩
theorem row7 {W : World} {X : Nat} {u0 u1 u2 u3 u4 u5 u6 : Value} {t : TypeId} (h : W.heap[X]? = some (.cells #[u0, u1, u2, u3, u4, u5, u6] t (0, 0))) : W.cell? ⟨X, 0, none⟩ = some u0 ∧ W.cell? ⟨X, 1, none⟩ = some u1 ∧ W.cell? ⟨X, 2, none⟩ = some u2 ∧ W.cell? ⟨X, 3, none⟩ = some u3 ∧ W.cell? ⟨X, 4, none⟩ = some u4 ∧ W.cell? ⟨X, 5, none⟩ = some u5 ∧ W.cell? ⟨X, 6, none⟩ = some u6 :=
  ⟨cell_of_row W X 0 _ _ _ h, cell_of_row W X 1 _ _ _ h, cell_of_row W X 2 _ _ _ h, cell_of_row W X 3 _ _ _ h, cell_of_row W X 4 _ _ _ h, cell_of_row W X 5 _ _ _ h, cell_of_row W X 6 _ _ _ h⟩

set_option maxHeartbeats 1000000 in
theorem tl_tell_fault (w : World) (ph er : Int) (img : List UInt8) (her : er ≠ 0) :
    Calls Tryz.prog 68 #[.agg #[.slice none 0 0, .slice none 0 0, .slice none 0 0, .int .u64 0], .agg #[.int .i64 ph, .string (mkS img), .int .i64 er]] w fun e w' => e = .returned (.agg (faultH ph img er).cells) ∧ Below w.heap.size w w' := by
  have hn : (er != 0) = true := by unfold bne; rw [beq_eq_false_iff_ne.2 her]; rfl
  clear her
  obtain ⟨-, r1, r2, hb3, hs3⟩ := alloc3 w (.cells #[.slice none 0 0, .slice none 0 0, .slice none 0 0, .int .u64 0] 116) (.cells #[.int .i64 ph, .string (mkS img), .int .i64 er] 45) (.cells #[.int .i64 0, .string ⟨#[]⟩, .int .i64 0, .slice none 0 0, .slice none 0 0, .slice none 0 0, .int .u64 0] 49)
  obtain ⟨W3, hW3⟩ : ∃ W3, W3 = (((w.alloc (.cells #[.slice none 0 0, .slice none 0 0, .slice none 0 0, .int .u64 0] 116)).alloc (.cells #[.int .i64 ph, .string (mkS img), .int .i64 er] 45)).alloc (.cells #[.int .i64 0, .string ⟨#[]⟩, .int .i64 0, .slice none 0 0, .slice none 0 0, .slice none 0 0, .int .u64 0] 49)) := ⟨_, rfl⟩
  rw [← hW3] at r1 r2 hb3 hs3
  have H3 := hid (And.intro hW3.symm (And.intro r1 (And.intro r2 hb3)))
  obtain ⟨f0, f1, f2⟩ := FaultAt.cells r1
  clear hW3 r1 r2 hb3
  go_enter Tryz.func68, Tryz.ntmps68
  go_upto_region 1 with fail
  rw [H3.out.1]
  obtain ⟨z0, z1, z2, z3, z4, z5, z6⟩ := row7 H3.out.2.2.1
  have zf := fun i => frozen_of_row _ (w.heap.size + 1 + 1) i _ _ H3.out.2.2.1
  go_wp2_with fail
  obtain ⟨hg, hrow⟩ := put7 (.int .i64 ph) (.string (mkS img)) (.int .i64 er) (.slice none 0 0) (.slice none 0 0) (.slice none 0 0) (.int .u64 0) H3.out.2.2.1
  generalize ((((((W3.setCell ⟨w.heap.size + 1 + 1, 0, none⟩ (.int .i64 ph)).setCell ⟨w.heap.size + 1 + 1, 1, none⟩ (.string (mkS img))).setCell ⟨w.heap.size + 1 + 1, 2, none⟩ (.int .i64 er)).setCell ⟨w.heap.size + 1 + 1, 3, none⟩ (.slice none 0 0)).setCell ⟨w.heap.size + 1 + 1, 4, none⟩ (.slice none 0 0)).setCell ⟨w.heap.size + 1 + 1, 5, none⟩ (.slice none 0 0)).setCell ⟨w.heap.size + 1 + 1, 6, none⟩ (.int .u64 0) = W4 at hg hrow ⊢
  clear z0 z1 z2 z3 z4 z5 z6 zf
  obtain ⟨z0, z1, z2, z3, z4, z5, z6⟩ := row7 hrow
  refine bodyPost_ret (v := .agg #[.int .i64 ph, .string (mkS img), .int .i64 er, .slice none 0 0, .slice none 0 0, .slice none 0 0, .int .u64 0]) (by simp [results, Tryz.results68, go_sem, z0, z1, z2, z3, z4, z5, z6]) rfl ?_
  exact ⟨rfl, Below.put H3.out.2.2.2 (Nat.le_refl _) (by omega) hg⟩

set_option maxHeartbeats 2000000 in
/-- Run of the bytes of a job without files. -/
theorem sc_run_no (w : World) (p : Option Addr) (cap : Nat) (j : JobM) (M : MayJ j) (hf : j.files = []) (hbase : j.base < 2 ^ 64) (hb : BS w (.slice p j.enc.length cap) j.enc) (hE : ET w) :
    Calls Tryz.prog 21 #[.slice p j.enc.length cap] w fun e w' => ∃ v, e = .returned (.tuple #[v, .int .i64 0]) ∧ OB w' w.heap.size 5 v (faultB 1 17 ++ nmB j.main) ∧ Below w.heap.size w w' := by
  have H := hid (And.intro hb (And.intro M (And.intro hE hbase)))
  clear hb M hE hbase
  go_enter Tryz.func21, Tryz.ntmps21
  go_wp2_with fail
  refine (sc_of w p cap j H.out.2.1 H.out.2.2.2 H.out.1).mono ?_
  rintro e w1 ⟨V, rfl, hV, -, hb1⟩
  have hfs : V.fs = [] := by have := congrArg JobM.files hV; rw [hf] at this; exact List.map_eq_nil_iff.1 this
  have harch : V.arch = 1 ∨ V.arch = 2 := by have := H.out.2.1.arch; rw [← hV] at this; exact this
  have hmain : V.main = j.main := by rw [← hV]; rfl
  have hcells : V.cells = #[.slice V.fp 0 V.fc, .string (mkS V.main), .slice V.ip V.ins.length V.ic, .int .i64 V.arch, .int .u64 (V.base : Int), .bool V.flat] := by unfold JobV.cells; rw [hfs]; rfl
  rw [hcells]
  have hal : Below w1.heap.size w1 (w1.alloc (.cells #[.slice V.fp 0 V.fc, .string (mkS V.main), .slice V.ip V.ins.length V.ic, .int .i64 V.arch, .int .u64 (V.base : Int), .bool V.flat] 27)) := (Below.refl _ _).alloc (Nat.le_refl _) _
  have hE2 := (H.out.2.2.1.below H.out.2.2.1.lt hb1).below (Nat.lt_of_lt_of_le H.out.2.2.1.lt hb1.size) hal
  have H1 := hid (And.intro hE2 (And.intro (hb1.trans (hal.mono hb1.size)) hmain))
  have hmb : (nmB V.main).length ≤ 140737488355328 := by rw [hmain, nmB_length]; have := H.out.2.1.main; omega
  clear hb1 hal hE2 hcells hfs hmain hV hmb
  go_wp2_with fail
  refine (ld_Run_no _ V.fp V.ip V.fc V.ic V.ins.length V.main V.arch V.base V.flat harch H1.out.1).mono ?_
  rintro e w2 ⟨rfl, hb2⟩
  have H2 := hid (H1.out.2.1.trans (hb2.mono H1.out.2.1.size))
  clear hb2
  go_wp2_with fail
  refine (tl_tell_fault w2 1 17 V.main (by decide)).mono ?_
  rintro e w3 ⟨rfl, hb3⟩
  have H3 := hid (H2.out.trans (hb3.mono H2.out.size))
  clear hb3
  go_wp2_with fail
  refine (tl_bytes_fault w3 (faultH 1 V.main 17) (show 0 + 0 + 0 ≤ 9223372036854775807 from Nat.zero_le _) (show (17 : Int) ≠ 0 by decide) (by unfold mayFH faultH bareH inB2; simp; have := H.out.2.1.main; rw [H1.out.2.2]; omega)).mono ?_
  rintro e w4 ⟨v, rfl, hown, hb4⟩
  obtain ⟨p4, n4, c4, hv4⟩ := OB.form3 hown
  subst hv4
  have H4 := hid (And.intro hown (H3.out.trans (hb4.mono H3.out.size)))
  clear hown hb4
  go_wp2_with fail
  refine bodyPost_ret (v := .tuple #[.slice p4 n4 c4, .int .i64 0]) (by simp [results, Tryz.results21, go_sem]) rfl ?_
  refine ⟨_, rfl, ?_, H4.out.2⟩
  have := H4.out.1
  rw [← H1.out.2.2]
  exact this.base H3.out.size
end Go.Proofs.YtfkpbgookilhjaaGreatDoor
