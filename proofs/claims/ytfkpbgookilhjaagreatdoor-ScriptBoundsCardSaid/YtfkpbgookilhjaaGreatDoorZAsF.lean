/- errors.As at an error that is a *api.Fault, and a target of type **api.Fault. -/
import Derived.Test.YtfkpbgookilhjaaGreatDoorZAs
import Derived.Test.YtfkpbgookilhjaaGreatDoorZCurB
namespace Go.Proofs.YtfkpbgookilhjaaGreatDoor
set_option linter.unusedSimpArgs false
set_option linter.unusedVariables false
open Go.RowKit Go.Extern.Stop Go.Stop Go.Extern

theorem af_valueOfT (t : Addr) (w : World) : (ReflectliteValue.unpack (.iface 149 (.pointer (some t)))).run Tryz.prog w
    = .ok (.agg #[.pointer (some ⟨2, 149, none⟩), .pointer (some ⟨w.heap.size, 0, none⟩), .int .u64 150]) (w.alloc (.cells #[.pointer (some t)] 149)) := by kernel_rfl
theorem af_typeT (a : Addr) (w : World) : (ReflectliteValue.methodAny (ReflectliteValue.valueError "reflectlite.Value.Type" 0) (fun t _ _ _ => ReflectliteType.toType t) #[.agg #[.pointer (some ⟨2, 149, none⟩), .pointer (some a), .int .u64 150]]).run Tryz.prog w
    = .ok (.iface 202 (.agg #[.pointer (some ⟨2, 149, none⟩)])) w := by kernel_rfl
theorem af_kindT (w : World) : ((ReflectliteType.abiMethod fun t => (fun a : Nat => Value.int IntKind.u8 (a : Int)) <$> Rtype.kind t) #[.pointer (some ⟨2, 149, none⟩)]).run Tryz.prog w = .ok (.int .u8 22) w := by kernel_rfl
theorem af_kindE (w : World) : ((ReflectliteType.abiMethod fun t => (fun a : Nat => Value.int IntKind.u8 (a : Int)) <$> Rtype.kind t) #[.pointer (some ⟨2, 147, none⟩)]).run Tryz.prog w = .ok (.int .u8 22) w := by kernel_rfl
theorem af_rlm (z : Sem Value) (f : TypeId → Addr → Nat → Nat → Sem Value) (v : Value) :
    ReflectliteValue.method z f #[v] = (do match ← ReflectliteValue.parts v with | none => z | some (t, a, fl) => f t a fl (fl % 32)) := rfl
theorem af_partsT (a : Addr) (w : World) : (ReflectliteValue.parts (.agg #[.pointer (some ⟨2, 149, none⟩), .pointer (some a), .int .u64 150])).run Tryz.prog w = .ok (some (149, a, 150)) w := by kernel_rfl
theorem af_isNilT (a p : Addr) (W : World) (ha : W.cell? a = some (.pointer (some p))) :
    (ReflectliteValue.method (ReflectliteValue.valueError "reflectlite.Value.IsNil" 0) ReflectliteValue.isNil #[.agg #[.pointer (some ⟨2, 149, none⟩), .pointer (some a), .int .u64 150]]).run Tryz.prog W = .ok (.bool false) W := by
  rw [af_rlm]
  simp only [Sem.run_bind, af_partsT, Result.andThen]
  simp [ReflectliteValue.isNil, loadVar, isAgg, underlying, Tryz.underlying149, ha, Result.andThen]
theorem af_elemT (w : World) : (ReflectliteType.method ReflectliteType.elem #[.agg #[.pointer (some ⟨2, 149, none⟩)]]).run Tryz.prog w = .ok (.iface 202 (.agg #[.pointer (some ⟨2, 147, none⟩)])) w := by kernel_rfl
theorem af_implE (w : World) : (ReflectliteType.relation "Implements" ReflectliteType.implements_ #[.agg #[.pointer (some ⟨2, 147, none⟩)], .iface 202 (.agg #[.pointer (some ⟨2, 126, none⟩)])]).run Tryz.prog w = .ok (.bool true) w := by kernel_rfl
theorem af_typeOfE (v : Value) (w : World) : (ReflectliteType.typeOf #[.iface 147 v]).run Tryz.prog w = .ok (.iface 202 (.agg #[.pointer (some ⟨2, 147, none⟩)])) w := by kernel_rfl
theorem af_asgE (w : World) : (ReflectliteType.relation "AssignableTo" ReflectliteType.assignableTo #[.agg #[.pointer (some ⟨2, 147, none⟩)], .iface 202 (.agg #[.pointer (some ⟨2, 147, none⟩)])]).run Tryz.prog w = .ok (.bool true) w := by kernel_rfl
theorem af_valueOfE (n : Addr) (w : World) : (ReflectliteValue.unpack (.iface 147 (.pointer (some n)))).run Tryz.prog w
    = .ok (.agg #[.pointer (some ⟨2, 147, none⟩), .pointer (some ⟨w.heap.size, 0, none⟩), .int .u64 150]) (w.alloc (.cells #[.pointer (some n)] 147)) := by kernel_rfl
theorem af_elemOfT (w : World) : (Rtype.elem? 149).run Tryz.prog w = .ok (some 147) w := by kernel_rfl
theorem af_mkE (p : Addr) (w : World) : (ReflectliteValue.mk 147 p ReflectliteValue.flagAddr).run Tryz.prog w = .ok (.agg #[.pointer (some ⟨2, 147, none⟩), .pointer (some p), .int .u64 406]) w := by kernel_rfl
theorem af_elemVT (a p : Addr) (W : World) (ha : W.cell? a = some (.pointer (some p))) :
    (ReflectliteValue.method (ReflectliteValue.valueError "reflectlite.Value.Elem" 0) ReflectliteValue.elem #[.agg #[.pointer (some ⟨2, 149, none⟩), .pointer (some a), .int .u64 150]]).run Tryz.prog W
      = .ok (.agg #[.pointer (some ⟨2, 147, none⟩), .pointer (some p), .int .u64 406]) W := by
  rw [af_rlm]
  simp only [Sem.run_bind, af_partsT, Result.andThen]
  simp [ReflectliteValue.elem, loadVar, isAgg, underlying, Tryz.underlying149, ha, Result.andThen, af_elemOfT, af_mkE]
theorem af_rls (v x : Value) : ReflectliteValue.set #[v, x] = (do
    let (some (dst, a, fl), some (src, b, _)) := (← ReflectliteValue.parts v, ← ReflectliteValue.parts x)
      | unsupported (.noEntry "extern/(internal/reflectlite.Value).Set.zeroValue")
    if fl / ReflectliteValue.flagAddr % 2 == 0 then unsupported (.noEntry "extern/(internal/reflectlite.Value).Set.unaddressable")
    let val ← loadVar src b
    if ← Rtype.directlyAssignable dst src then storeVar dst a val
    else if ← Rtype.implements dst src then
      if (← Rtype.kind src) == 20 then
        match val with
        | .nilIface => unsupported (.noEntry "extern/reflectlite: a nil value of one interface type handed on as a value of another")
        | _ => storeVar dst a val
      else storeVar dst a (.iface src val)
    else panicString ("reflectlite.Set: value of type " ++ (← Rtype.spelt src) ++ " is not assignable to type " ++ (← Rtype.spelt dst))
    pure (.tuple #[])) := rfl
theorem af_partsEa (a : Addr) (w : World) : (ReflectliteValue.parts (.agg #[.pointer (some ⟨2, 147, none⟩), .pointer (some a), .int .u64 406])).run Tryz.prog w = .ok (some (147, a, 406)) w := by kernel_rfl
theorem af_partsE (a : Addr) (w : World) : (ReflectliteValue.parts (.agg #[.pointer (some ⟨2, 147, none⟩), .pointer (some a), .int .u64 150])).run Tryz.prog w = .ok (some (147, a, 150)) w := by kernel_rfl
theorem af_directE (w : World) : (Rtype.directlyAssignable 147 147).run Tryz.prog w = .ok true w := by kernel_rfl
theorem af_setE (ta b : Addr) (n : Addr) (old : Value) (W : World) (hb : W.cell? b = some (.pointer (some n))) (ht : W.cell? ta = some old) (hf : W.frozen? ta = false) :
    (ReflectliteValue.set #[.agg #[.pointer (some ⟨2, 147, none⟩), .pointer (some ta), .int .u64 406], .agg #[.pointer (some ⟨2, 147, none⟩), .pointer (some b), .int .u64 150]]).run Tryz.prog W
      = .ok (.tuple #[]) (W.setCell ta (.pointer (some n))) := by
  rw [af_rls]
  simp only [Sem.run_bind, af_partsEa, af_partsE, Result.andThen]
  simp [ReflectliteValue.flagAddr, loadVar, isAgg, underlying, Tryz.underlying147, hb, Result.andThen, af_directE, storeVar, Value.cells, storeCells, Addr.add]
  rw [run_store Tryz.prog W ta _ _ (by rfl)]
  simp [ht, hf]


set_option maxHeartbeats 4000000 in
set_option maxRecDepth 4000 in
theorem af_direct (bt : Nat) (n : Addr) (old : Value) (w : World) (hg : w.cell? ⟨0, 0, none⟩ = some (.iface 202 (.agg #[.pointer (some ⟨2, 126, none⟩)])))
    (ht0 : w.cell? ⟨bt, 0, none⟩ = some old) (hf0 : w.frozen? ⟨bt, 0, none⟩ = false) :
    Calls Tryz.prog 86 #[.iface 147 (.pointer (some n)), .iface 149 (.pointer (some ⟨bt, 0, none⟩))] w fun ev w' => ev = .returned (.bool true) ∧ w'.cell? ⟨bt, 0, none⟩ = some (.pointer (some n)) ∧ w.grownBy w' (some bt) := by
  have h83 := @run_callFunc_extern Tryz.prog 94 _ (fun args => ReflectliteValue.unpack (args.getD 0 (.tuple #[]))) Tryz.func94 (by kernel_rfl) (by kernel_rfl) (by kernel_rfl) (by kernel_rfl)
  have h84 := @run_callFunc_extern Tryz.prog 95 _ (ReflectliteValue.methodAny (ReflectliteValue.valueError "reflectlite.Value.Type" 0) (fun t _ _ _ => ReflectliteType.toType t)) Tryz.func95 (by kernel_rfl) (by kernel_rfl) (by kernel_rfl) (by kernel_rfl)
  have h85 := @run_callFunc_extern Tryz.prog 96 _ (ReflectliteValue.method (ReflectliteValue.valueError "reflectlite.Value.IsNil" 0) ReflectliteValue.isNil) Tryz.func96 (by kernel_rfl) (by kernel_rfl) (by kernel_rfl) (by kernel_rfl)
  have h105 := @run_callFunc_extern Tryz.prog 406 _ (ReflectliteType.abiMethod fun t => do pure (.int .u8 (← Rtype.kind t))) Tryz.func406 (by kernel_rfl) (by kernel_rfl) (by kernel_rfl) (by kernel_rfl)
  have h117 := @run_callFunc_extern Tryz.prog 420 _ (ReflectliteType.method ReflectliteType.elem) Tryz.func420 (by kernel_rfl) (by kernel_rfl) (by kernel_rfl) (by kernel_rfl)
  have h118 := @run_callFunc_extern Tryz.prog 421 _ (ReflectliteType.relation "Implements" ReflectliteType.implements_) Tryz.func421 (by kernel_rfl) (by kernel_rfl) (by kernel_rfl) (by kernel_rfl)
  have h88 := @run_callFunc_extern Tryz.prog 109 _ ReflectliteType.typeOf Tryz.func109 (by kernel_rfl) (by kernel_rfl) (by kernel_rfl) (by kernel_rfl)
  have h115 := @run_callFunc_extern Tryz.prog 418 _ (ReflectliteType.relation "AssignableTo" ReflectliteType.assignableTo) Tryz.func418 (by kernel_rfl) (by kernel_rfl) (by kernel_rfl) (by kernel_rfl)
  have h89 := @run_callFunc_extern Tryz.prog 110 _ (ReflectliteValue.method (ReflectliteValue.valueError "reflectlite.Value.Elem" 0) ReflectliteValue.elem) Tryz.func110 (by kernel_rfl) (by kernel_rfl) (by kernel_rfl) (by kernel_rfl)
  have h90 := @run_callFunc_extern Tryz.prog 111 _ ReflectliteValue.set Tryz.func111 (by kernel_rfl) (by kernel_rfl) (by kernel_rfl) (by kernel_rfl)
  have q2 := af_typeOfE
  have q4 := af_asgE
  have q5 := af_valueOfE
  have q6 := af_valueOfT
  have q7 := af_typeT
  have q8 := af_kindT
  have q9 := af_kindE
  have q10 := af_elemT
  have q11 := af_implE
  have n8 := af_isNilT ⟨w.heap.size, 0, none⟩ ⟨bt, 0, none⟩ ((w.alloc (.cells #[.pointer (some ⟨bt, 0, none⟩)] 149)).alloc (.cells #[.pointer (some ⟨2, 149, none⟩), .pointer (some ⟨w.heap.size, 0, none⟩), .int .u64 150] 166)) (by simp)
  have hlt : 0 < w.heap.size := by
    rcases Nat.lt_or_ge 0 w.heap.size with h | h
    · exact h
    · simp [World.cell?, Array.getElem?_eq_none h] at hg
  have hg2 : ((w.alloc (.cells #[.pointer (some ⟨bt, 0, none⟩)] 149)).alloc (.cells #[.pointer (some ⟨2, 149, none⟩), .pointer (some ⟨w.heap.size, 0, none⟩), .int .u64 150] 166)).cell? ⟨0, 0, none⟩ = some (.iface 202 (.agg #[.pointer (some ⟨2, 126, none⟩)])) := by
    rw [World.cell?_alloc_lt _ _ ⟨0, 0, none⟩ (by rw [World.size_alloc]; exact Nat.lt_succ_of_lt hlt), World.cell?_alloc_lt _ _ ⟨0, 0, none⟩ hlt]; exact hg
  have hbt : bt < w.heap.size := lt_of_cellB ht0
  have el := af_elemVT ⟨w.heap.size, 0, none⟩ ⟨bt, 0, none⟩ (((w.alloc (.cells #[.pointer (some ⟨bt, 0, none⟩)] 149)).alloc (.cells #[.pointer (some ⟨2, 149, none⟩), .pointer (some ⟨w.heap.size, 0, none⟩), .int .u64 150] 166)).alloc (.cells #[.pointer (some ⟨2, 149, none⟩), .pointer (some ⟨w.heap.size, 0, none⟩), .int .u64 150] 166)) (by rw [World.cell?_alloc_lt _ _ ⟨w.heap.size, 0, none⟩ (by simp; omega)]; simp)
  have ht4 : ((((w.alloc (.cells #[.pointer (some ⟨bt, 0, none⟩)] 149)).alloc (.cells #[.pointer (some ⟨2, 149, none⟩), .pointer (some ⟨w.heap.size, 0, none⟩), .int .u64 150] 166)).alloc (.cells #[.pointer (some ⟨2, 149, none⟩), .pointer (some ⟨w.heap.size, 0, none⟩), .int .u64 150] 166)).alloc (.cells #[.pointer (some n)] 147)).cell? ⟨bt, 0, none⟩ = some old := by
    rw [World.cell?_alloc_lt _ _ ⟨bt, 0, none⟩ (by simp; omega), World.cell?_alloc_lt _ _ ⟨bt, 0, none⟩ (by simp; omega), World.cell?_alloc_lt _ _ ⟨bt, 0, none⟩ (by simp; omega), World.cell?_alloc_lt _ _ ⟨bt, 0, none⟩ hbt]; exact ht0
  have st := af_setE ⟨bt, 0, none⟩ ⟨w.heap.size + 1 + 1 + 1, 0, none⟩ n old ((((w.alloc (.cells #[.pointer (some ⟨bt, 0, none⟩)] 149)).alloc (.cells #[.pointer (some ⟨2, 149, none⟩), .pointer (some ⟨w.heap.size, 0, none⟩), .int .u64 150] 166)).alloc (.cells #[.pointer (some ⟨2, 149, none⟩), .pointer (some ⟨w.heap.size, 0, none⟩), .int .u64 150] 166)).alloc (.cells #[.pointer (some n)] 147))
    (by rw [World.cell?_alloc_at _ _ _ _ (by simp)]; rfl) ht4
    (by rw [World.frozen?_alloc_old _ _ ⟨bt, 0, none⟩ (by simp; omega), World.frozen?_alloc_old _ _ ⟨bt, 0, none⟩ (by simp; omega), World.frozen?_alloc_old _ _ ⟨bt, 0, none⟩ (by simp; omega), World.frozen?_alloc_old _ _ ⟨bt, 0, none⟩ (Nat.ne_of_lt hbt)]; exact hf0)
  have H := hid (And.intro (World.cell?_setCell_same ((((w.alloc (.cells #[.pointer (some ⟨bt, 0, none⟩)] 149)).alloc (.cells #[.pointer (some ⟨2, 149, none⟩), .pointer (some ⟨w.heap.size, 0, none⟩), .int .u64 150] 166)).alloc (.cells #[.pointer (some ⟨2, 149, none⟩), .pointer (some ⟨w.heap.size, 0, none⟩), .int .u64 150] 166)).alloc (.cells #[.pointer (some n)] 147)) (a := ⟨bt, 0, none⟩) (.pointer (some n)) ht4)
    (grownBy_tr (grownBy_tr (grownBy_tr (grownBy_tr (World.grownBy_alloc w _ (some bt)) (World.grownBy_alloc _ _ (some bt))) (World.grownBy_alloc _ _ (some bt))) (World.grownBy_alloc _ _ (some bt))) (grownBy_setB ((((w.alloc (.cells #[.pointer (some ⟨bt, 0, none⟩)] 149)).alloc (.cells #[.pointer (some ⟨2, 149, none⟩), .pointer (some ⟨w.heap.size, 0, none⟩), .int .u64 150] 166)).alloc (.cells #[.pointer (some ⟨2, 149, none⟩), .pointer (some ⟨w.heap.size, 0, none⟩), .int .u64 150] 166)).alloc (.cells #[.pointer (some n)] 147)) bt 0 (.pointer (some n)))))
  clear ht4
  go_enter Tryz.func86, Tryz.ntmps86
  go_wp2
  refine wp_loop_rounds 1 ?_
  rw [rounds_succ]
  go_wp2
  go_ret
  exact ⟨rfl, H.out.1, H.out.2⟩

end Go.Proofs.YtfkpbgookilhjaaGreatDoor
