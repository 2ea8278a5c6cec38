/- Bytes that are copied; the rows of bytes, numbers and pieces. -/
import Derived.Test.YtjfkgdfmkofbmaaGreatDoorZBpA
namespace Go.Proofs.YtjfkgdfmkofbmaaGreatDoor
set_option linter.unusedSimpArgs false
set_option linter.unusedVariables false
open Go.RowKit

theorem un_bsB : Tryz.prog.underlying 72 = some (.slice 5) := Tryz.underlying72
theorem infoB1 : (Tryz.prog.info? 5).map (fun i => (i.zero, i.size, i.bytes)) = some (some (.int .u8 0), 1, 1) := by kernel_rfl
theorem infoP1 : (Tryz.prog.info? 74).map (fun i => (i.zero, i.size, i.bytes)) = some (some (.agg #[.int .u64 0, .int .i64 0, .slice none 0 0]), 3, 40) := by kernel_rfl
theorem infoG1 : (Tryz.prog.info? 94).map (fun i => (i.zero, i.size, i.bytes)) = some (some (.agg #[.int .u64 0, .slice none 0 0, .slice none 0 0]), 3, 56) := by kernel_rfl
theorem infoU1 : (Tryz.prog.info? 36).map (fun i => (i.zero, i.size, i.bytes)) = some (some (.int .u64 0), 1, 8) := by kernel_rfl
theorem u8rowB : ∃ i, U8Row Tryz.prog 72 5 i := by
  obtain ⟨i, h1, h2, h3, h4⟩ := info_parts infoB1
  exact ⟨i, ⟨un_bsB, h1, h2, h3, h4⟩⟩

theorem bd_clone (w : World) (p : Option Addr) (cap : Nat) (bs : List UInt8) (h : BS w (.slice p bs.length cap) bs) (hne : bs ≠ []) :
    Calls Tryz.prog 38 #[.slice p bs.length cap] w fun e w' => ∃ v, e = .returned v ∧ OB w' w.heap.size 5 v bs ∧ Below w.heap.size w w' := by
  obtain ⟨i, R⟩ := u8rowB
  have hl : bs.length ≤ 140737488355328 := by obtain ⟨_, _, _, _, h2, _⟩ := h; exact h2.2
  obtain ⟨b, off, rfl, -⟩ := h.at (List.length_pos_iff.2 hne)
  have hq : ∀ w : World, (binOp .eql 72 (.slice (some ⟨b, off, none⟩) bs.length cap) (.slice none 0 0)).run Tryz.prog w = .ok (.bool false) w := fun w => Lib.run_eql_slice_nil w _ _ _ _ _ 0 0 un_bsB
  have H0 := hid (OB.laid w (e := 5) [] (by simp))
  have H1 := hid (h.below ((Below.refl _ _).alloc (Nat.le_refl _) (Obj.cells #[] 5)))
  have HR := hid R
  clear h R
  go_enter Tryz.func38, Tryz.ntmps38
  go_wp2_with (at_builtin; refine wpList_bytes HR.out _ rfl _ _ _ rfl w.heap.size _ [] rfl H0.out _ bs rfl (Src.ofBS un_bsB H1.out) (by simpa using hl) (by simp) ?_)
  intro v1 w1 ho1 hg1
  have hb : Below w.heap.size w w1 := (Grew.under ((Below.refl _ _).alloc (Nat.le_refl _) _) hg1).below (Nat.le_refl _) (fun q hq => (World.ownsRow.lt H0.out q hq).1)
  have HE := hid (And.intro ho1 hb)
  clear ho1 hb hg1
  go_wp2_with fail
  go_ret
  exact ⟨_, rfl, HE.out.1, HE.out.2⟩
end Go.Proofs.YtjfkgdfmkofbmaaGreatDoor
