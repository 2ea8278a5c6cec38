/- errors.As and cursor.Code at an error of type api.Errno itself. -/
import Derived.Test.YtacmjpkcimjjpaaGreatDoorAsW
namespace Go.Proofs.YtacmjpkcimjjpaaGreatDoor
set_option linter.unusedSimpArgs false
set_option linter.unusedVariables false
open Go.RowKit Go.Extern.Stop Go.Stop Go.Extern

set_option maxHeartbeats 4000000 in
set_option maxRecDepth 4000 in
theorem as_direct (bt : Nat) (n : Int) (old : Value) (w : World) (hg : w.cell? ⟨0, 0, none⟩ = some (.iface 229 (.agg #[.pointer (some ⟨2, 143, none⟩)])))
    (ht0 : w.cell? ⟨bt, 0, none⟩ = some old) (hf0 : w.frozen? ⟨bt, 0, none⟩ = false) :
    Calls Tryz.prog 100 #[.iface 28 (.int .i64 n), .iface 183 (.pointer (some ⟨bt, 0, none⟩))] w fun ev w' => ev = .returned (.bool true) ∧ w'.cell? ⟨bt, 0, none⟩ = some (.int .i64 n) ∧ w.grownBy w' (some bt) := by
  have h83 := @run_callFunc_extern Tryz.prog 124 _ (fun args => ReflectliteValue.unpack (args.getD 0 (.tuple #[]))) Tryz.func124 (by kernel_rfl) (by kernel_rfl) (by kernel_rfl) (by kernel_rfl)
  have h84 := @run_callFunc_extern Tryz.prog 125 _ (ReflectliteValue.methodAny (ReflectliteValue.valueError "reflectlite.Value.Type" 0) (fun t _ _ _ => ReflectliteType.toType t)) Tryz.func125 (by kernel_rfl) (by kernel_rfl) (by kernel_rfl) (by kernel_rfl)
  have h85 := @run_callFunc_extern Tryz.prog 126 _ (ReflectliteValue.method (ReflectliteValue.valueError "reflectlite.Value.IsNil" 0) ReflectliteValue.isNil) Tryz.func126 (by kernel_rfl) (by kernel_rfl) (by kernel_rfl) (by kernel_rfl)
  have h105 := @run_callFunc_extern Tryz.prog 178 _ (ReflectliteType.abiMethod fun t => do pure (.int .u8 (← Rtype.kind t))) Tryz.func178 (by kernel_rfl) (by kernel_rfl) (by kernel_rfl) (by kernel_rfl)
  have h117 := @run_callFunc_extern Tryz.prog 189 _ (ReflectliteType.method ReflectliteType.elem) Tryz.func189 (by kernel_rfl) (by kernel_rfl) (by kernel_rfl) (by kernel_rfl)
  have h118 := @run_callFunc_extern Tryz.prog 190 _ (ReflectliteType.relation "Implements" ReflectliteType.implements_) Tryz.func190 (by kernel_rfl) (by kernel_rfl) (by kernel_rfl) (by kernel_rfl)
  have h88 := @run_callFunc_extern Tryz.prog 122 _ ReflectliteType.typeOf Tryz.func122 (by kernel_rfl) (by kernel_rfl) (by kernel_rfl) (by kernel_rfl)
  have h115 := @run_callFunc_extern Tryz.prog 187 _ (ReflectliteType.relation "AssignableTo" ReflectliteType.assignableTo) Tryz.func187 (by kernel_rfl) (by kernel_rfl) (by kernel_rfl) (by kernel_rfl)
  have h89 := @run_callFunc_extern Tryz.prog 136 _ (ReflectliteValue.method (ReflectliteValue.valueError "reflectlite.Value.Elem" 0) ReflectliteValue.elem) Tryz.func136 (by kernel_rfl) (by kernel_rfl) (by kernel_rfl) (by kernel_rfl)
  have h90 := @run_callFunc_extern Tryz.prog 137 _ ReflectliteValue.set Tryz.func137 (by kernel_rfl) (by kernel_rfl) (by kernel_rfl) (by kernel_rfl)
  have q2 := as_typeOfE
  have q4 := as_asgE
  have q5 := as_valueOfE
  have q6 := as_valueOfT
  have q7 := as_typeT
  have q8 := as_kindT
  have q9 := as_kindE
  have q10 := as_elemT
  have q11 := as_implE
  have n8 := as_isNilT ⟨w.heap.size, 0, none⟩ ⟨bt, 0, none⟩ ((w.alloc (.cells #[.pointer (some ⟨bt, 0, none⟩)] 183)).alloc (.cells #[.pointer (some ⟨2, 183, none⟩), .pointer (some ⟨w.heap.size, 0, none⟩), .int .u64 150] 215)) (by simp)
  have hlt : 0 < w.heap.size := by
    rcases Nat.lt_or_ge 0 w.heap.size with h | h
    · exact h
    · simp [World.cell?, Array.getElem?_eq_none h] at hg
  have hg2 : ((w.alloc (.cells #[.pointer (some ⟨bt, 0, none⟩)] 183)).alloc (.cells #[.pointer (some ⟨2, 183, none⟩), .pointer (some ⟨w.heap.size, 0, none⟩), .int .u64 150] 215)).cell? ⟨0, 0, none⟩ = some (.iface 229 (.agg #[.pointer (some ⟨2, 143, none⟩)])) := by
    rw [World.cell?_alloc_lt _ _ ⟨0, 0, none⟩ (by rw [World.size_alloc]; exact Nat.lt_succ_of_lt hlt), World.cell?_alloc_lt _ _ ⟨0, 0, none⟩ hlt]; exact hg
  have hbt : bt < w.heap.size := lt_of_cellB ht0
  have el := as_elemVT ⟨w.heap.size, 0, none⟩ ⟨bt, 0, none⟩ (((w.alloc (.cells #[.pointer (some ⟨bt, 0, none⟩)] 183)).alloc (.cells #[.pointer (some ⟨2, 183, none⟩), .pointer (some ⟨w.heap.size, 0, none⟩), .int .u64 150] 215)).alloc (.cells #[.pointer (some ⟨2, 183, none⟩), .pointer (some ⟨w.heap.size, 0, none⟩), .int .u64 150] 215)) (by rw [World.cell?_alloc_lt _ _ ⟨w.heap.size, 0, none⟩ (by simp; omega)]; simp)
  have ht4 : ((((w.alloc (.cells #[.pointer (some ⟨bt, 0, none⟩)] 183)).alloc (.cells #[.pointer (some ⟨2, 183, none⟩), .pointer (some ⟨w.heap.size, 0, none⟩), .int .u64 150] 215)).alloc (.cells #[.pointer (some ⟨2, 183, none⟩), .pointer (some ⟨w.heap.size, 0, none⟩), .int .u64 150] 215)).alloc (.cells #[.int .i64 n] 28)).cell? ⟨bt, 0, none⟩ = some old := by
    rw [World.cell?_alloc_lt _ _ ⟨bt, 0, none⟩ (by simp; omega), World.cell?_alloc_lt _ _ ⟨bt, 0, none⟩ (by simp; omega), World.cell?_alloc_lt _ _ ⟨bt, 0, none⟩ (by simp; omega), World.cell?_alloc_lt _ _ ⟨bt, 0, none⟩ hbt]; exact ht0
  have st := as_setE ⟨bt, 0, none⟩ ⟨w.heap.size + 1 + 1 + 1, 0, none⟩ n old ((((w.alloc (.cells #[.pointer (some ⟨bt, 0, none⟩)] 183)).alloc (.cells #[.pointer (some ⟨2, 183, none⟩), .pointer (some ⟨w.heap.size, 0, none⟩), .int .u64 150] 215)).alloc (.cells #[.pointer (some ⟨2, 183, none⟩), .pointer (some ⟨w.heap.size, 0, none⟩), .int .u64 150] 215)).alloc (.cells #[.int .i64 n] 28))
    (by rw [World.cell?_alloc_at _ _ _ _ (by simp)]; rfl) ht4
    (by rw [World.frozen?_alloc_old _ _ ⟨bt, 0, none⟩ (by simp; omega), World.frozen?_alloc_old _ _ ⟨bt, 0, none⟩ (by simp; omega), World.frozen?_alloc_old _ _ ⟨bt, 0, none⟩ (by simp; omega), World.frozen?_alloc_old _ _ ⟨bt, 0, none⟩ (Nat.ne_of_lt hbt)]; exact hf0)
  have H := hid (And.intro (World.cell?_setCell_same ((((w.alloc (.cells #[.pointer (some ⟨bt, 0, none⟩)] 183)).alloc (.cells #[.pointer (some ⟨2, 183, none⟩), .pointer (some ⟨w.heap.size, 0, none⟩), .int .u64 150] 215)).alloc (.cells #[.pointer (some ⟨2, 183, none⟩), .pointer (some ⟨w.heap.size, 0, none⟩), .int .u64 150] 215)).alloc (.cells #[.int .i64 n] 28)) (a := ⟨bt, 0, none⟩) (.int .i64 n) ht4)
    (grownBy_tr (grownBy_tr (grownBy_tr (grownBy_tr (World.grownBy_alloc w _ (some bt)) (World.grownBy_alloc _ _ (some bt))) (World.grownBy_alloc _ _ (some bt))) (World.grownBy_alloc _ _ (some bt))) (grownBy_setB ((((w.alloc (.cells #[.pointer (some ⟨bt, 0, none⟩)] 183)).alloc (.cells #[.pointer (some ⟨2, 183, none⟩), .pointer (some ⟨w.heap.size, 0, none⟩), .int .u64 150] 215)).alloc (.cells #[.pointer (some ⟨2, 183, none⟩), .pointer (some ⟨w.heap.size, 0, none⟩), .int .u64 150] 215)).alloc (.cells #[.int .i64 n] 28)) bt 0 (.int .i64 n))))
  clear ht4
  go_enter Tryz.func100, Tryz.ntmps100
  go_wp2
  refine wp_loop_rounds 1 ?_
  rw [rounds_succ]
  go_wp2
  go_ret
  exact ⟨rfl, H.out.1, H.out.2⟩

set_option maxHeartbeats 1000000 in
theorem code_errno (n : Int) (w : World) (hg : w.cell? ⟨0, 0, none⟩ = some (.iface 229 (.agg #[.pointer (some ⟨2, 143, none⟩)]))) :
    Calls Tryz.prog 72 #[.iface 28 (.int .i64 n)] w fun e w' => e = .returned (.int .i64 n) ∧ w.grownBy w' none := by
  have hlt := lt_of_cellB hg
  have ha := fun old o => as_direct w.heap.size n old (w.alloc o) (by rw [World.cell?_alloc_lt _ _ ⟨0, 0, none⟩ hlt]; exact hg)
  have hgw := fun o w' (h : (w.alloc o).grownBy w' (some w.heap.size)) => (show w.grownBy w' none from
    ⟨h.os, h.tape, h.output, Nat.le_trans (by simp) h.size, fun i hi _ => (h.block i (by simp; omega) (by simp; omega)).trans ((World.grownBy_alloc w o none).block i hi (by simp))⟩)
  go_enter Tryz.func72, Tryz.ntmps72
  go_wp2_with (go_at_call 100; refine (ha (.int .i64 0) _ (by simp) (by simp)).mono ?_; rintro e w' ⟨rfl, hc, hgr⟩)
  go_ret
  exact ⟨rfl, hgw _ _ hgr⟩
end Go.Proofs.YtacmjpkcimjjpaaGreatDoor
