/- errors.As, at an error of package cursor and a target of type *api.Errno. -/
import Derived.Test.YtjfkgdfmkofbmaaGreatDoorProg
import Derived.KernelRfl
import GoSem.Claim
import Derived.Test.YtjfkgdfmkofbmaaGreatDoorZKit
import Derived.LaidEql
import Derived.Stop.Asserts
namespace Go.Proofs.YtjfkgdfmkofbmaaGreatDoor
set_option linter.unusedSimpArgs false
set_option linter.unusedVariables false
open Go.RowKit Go.Extern.Stop Go.Stop Go.Extern

theorem as_valueOfT (t : Addr) (w : World) : (ReflectliteValue.unpack (.iface 489 (.pointer (some t)))).run Tryz.prog w
    = .ok (.agg #[.pointer (some ⟨5, 489, none⟩), .pointer (some ⟨w.heap.size, 0, none⟩), .int .u64 150]) (w.alloc (.cells #[.pointer (some t)] 489)) := by kernel_rfl
theorem as_typeT (a : Addr) (w : World) : (ReflectliteValue.methodAny (ReflectliteValue.valueError "reflectlite.Value.Type" 0) (fun t _ _ _ => ReflectliteType.toType t) #[.agg #[.pointer (some ⟨5, 489, none⟩), .pointer (some a), .int .u64 150]]).run Tryz.prog w
    = .ok (.iface 206 (.agg #[.pointer (some ⟨5, 489, none⟩)])) w := by kernel_rfl
theorem as_kindT (w : World) : ((ReflectliteType.abiMethod fun t => (fun a : Nat => Value.int IntKind.u8 (a : Int)) <$> Rtype.kind t) #[.pointer (some ⟨5, 489, none⟩)]).run Tryz.prog w = .ok (.int .u8 22) w := by kernel_rfl
theorem as_kindE (w : World) : ((ReflectliteType.abiMethod fun t => (fun a : Nat => Value.int IntKind.u8 (a : Int)) <$> Rtype.kind t) #[.pointer (some ⟨5, 31, none⟩)]).run Tryz.prog w = .ok (.int .u8 2) w := by kernel_rfl
theorem as_rlm (z : Sem Value) (f : TypeId → Addr → Nat → Nat → Sem Value) (v : Value) :
    ReflectliteValue.method z f #[v] = (do match ← ReflectliteValue.parts v with | none => z | some (t, a, fl) => f t a fl (fl % 32)) := rfl
theorem as_partsT (a : Addr) (w : World) : (ReflectliteValue.parts (.agg #[.pointer (some ⟨5, 489, none⟩), .pointer (some a), .int .u64 150])).run Tryz.prog w = .ok (some (489, a, 150)) w := by kernel_rfl
theorem as_isNilT (a p : Addr) (W : World) (ha : W.cell? a = some (.pointer (some p))) :
    (ReflectliteValue.method (ReflectliteValue.valueError "reflectlite.Value.IsNil" 0) ReflectliteValue.isNil #[.agg #[.pointer (some ⟨5, 489, none⟩), .pointer (some a), .int .u64 150]]).run Tryz.prog W = .ok (.bool false) W := by
  rw [as_rlm]
  simp only [Sem.run_bind, as_partsT, Result.andThen]
  simp [ReflectliteValue.isNil, loadVar, isAgg, underlying, Tryz.underlying489, ha, Result.andThen]
theorem as_elemT (w : World) : (ReflectliteType.method ReflectliteType.elem #[.agg #[.pointer (some ⟨5, 489, none⟩)]]).run Tryz.prog w = .ok (.iface 206 (.agg #[.pointer (some ⟨5, 31, none⟩)])) w := by kernel_rfl
theorem as_implE (w : World) : (ReflectliteType.relation "Implements" ReflectliteType.implements_ #[.agg #[.pointer (some ⟨5, 31, none⟩)], .iface 206 (.agg #[.pointer (some ⟨5, 134, none⟩)])]).run Tryz.prog w = .ok (.bool true) w := by kernel_rfl
theorem as_typeOfW (v : Value) (w : World) : (ReflectliteType.typeOf #[.iface 547 v]).run Tryz.prog w = .ok (.iface 206 (.agg #[.pointer (some ⟨5, 547, none⟩)])) w := by kernel_rfl
theorem as_typeOfE (v : Value) (w : World) : (ReflectliteType.typeOf #[.iface 31 v]).run Tryz.prog w = .ok (.iface 206 (.agg #[.pointer (some ⟨5, 31, none⟩)])) w := by kernel_rfl
theorem as_asgW (w : World) : (ReflectliteType.relation "AssignableTo" ReflectliteType.assignableTo #[.agg #[.pointer (some ⟨5, 547, none⟩)], .iface 206 (.agg #[.pointer (some ⟨5, 31, none⟩)])]).run Tryz.prog w = .ok (.bool false) w := by kernel_rfl
theorem as_asgE (w : World) : (ReflectliteType.relation "AssignableTo" ReflectliteType.assignableTo #[.agg #[.pointer (some ⟨5, 31, none⟩)], .iface 206 (.agg #[.pointer (some ⟨5, 31, none⟩)])]).run Tryz.prog w = .ok (.bool true) w := by kernel_rfl
theorem as_valueOfE (n : Int) (w : World) : (ReflectliteValue.unpack (.iface 31 (.int .i64 n))).run Tryz.prog w
    = .ok (.agg #[.pointer (some ⟨5, 31, none⟩), .pointer (some ⟨w.heap.size, 0, none⟩), .int .u64 130]) (w.alloc (.cells #[.int .i64 n] 31)) := by kernel_rfl
theorem as_elemOfT (w : World) : (Rtype.elem? 489).run Tryz.prog w = .ok (some 31) w := by kernel_rfl
theorem as_mkE (p : Addr) (w : World) : (ReflectliteValue.mk 31 p ReflectliteValue.flagAddr).run Tryz.prog w = .ok (.agg #[.pointer (some ⟨5, 31, none⟩), .pointer (some p), .int .u64 386]) w := by kernel_rfl
theorem as_elemVT (a p : Addr) (W : World) (ha : W.cell? a = some (.pointer (some p))) :
    (ReflectliteValue.method (ReflectliteValue.valueError "reflectlite.Value.Elem" 0) ReflectliteValue.elem #[.agg #[.pointer (some ⟨5, 489, none⟩), .pointer (some a), .int .u64 150]]).run Tryz.prog W
      = .ok (.agg #[.pointer (some ⟨5, 31, none⟩), .pointer (some p), .int .u64 386]) W := by
  rw [as_rlm]
  simp only [Sem.run_bind, as_partsT, Result.andThen]
  simp [ReflectliteValue.elem, loadVar, isAgg, underlying, Tryz.underlying489, ha, Result.andThen, as_elemOfT, as_mkE]
theorem as_rls (v x : Value) : ReflectliteValue.set #[v, x] = (do
    let (some (dst, a, fl), some (src, b, _)) := (← ReflectliteValue.parts v, ← ReflectliteValue.parts x)
      | unsupported (.noEntry "extern/(internal/reflectlite.Value).Set.zeroValue")
    if fl / ReflectliteValue.flagAddr % 2 == 0 then unsupported (.noEntry "extern/(internal/reflectlite.Value).Set.unaddressable")
    let val ← loadVar src b
    if ← Rtype.directlyAssignable dst src then storeVar dst a val
    else if ← Rtype.implements dst src then
      if (← Rtype.kind src) == 20 then
        match val with
        | .nilIface => unsupported (.noEntry "extern/reflectlite: a nil value of one interface type handed on as a value of another")
        | _ => storeVar dst a val
      else storeVar dst a (.iface src val)
    else panicString ("reflectlite.Set: value of type " ++ (← Rtype.spelt src) ++ " is not assignable to type " ++ (← Rtype.spelt dst))
    pure (.tuple #[])) := rfl
theorem as_partsEa (a : Addr) (w : World) : (ReflectliteValue.parts (.agg #[.pointer (some ⟨5, 31, none⟩), .pointer (some a), .int .u64 386])).run Tryz.prog w = .ok (some (31, a, 386)) w := by kernel_rfl
theorem as_partsE (a : Addr) (w : World) : (ReflectliteValue.parts (.agg #[.pointer (some ⟨5, 31, none⟩), .pointer (some a), .int .u64 130])).run Tryz.prog w = .ok (some (31, a, 130)) w := by kernel_rfl
theorem as_directE (w : World) : (Rtype.directlyAssignable 31 31).run Tryz.prog w = .ok true w := by kernel_rfl
theorem as_setE (ta b : Addr) (n : Int) (old : Value) (W : World) (hb : W.cell? b = some (.int .i64 n)) (ht : W.cell? ta = some old) (hf : W.frozen? ta = false) :
    (ReflectliteValue.set #[.agg #[.pointer (some ⟨5, 31, none⟩), .pointer (some ta), .int .u64 386], .agg #[.pointer (some ⟨5, 31, none⟩), .pointer (some b), .int .u64 130]]).run Tryz.prog W
      = .ok (.tuple #[]) (W.setCell ta (.int .i64 n)) := by
  rw [as_rls]
  simp only [Sem.run_bind, as_partsEa, as_partsE, Result.andThen]
  simp [ReflectliteValue.flagAddr, loadVar, isAgg, underlying, Tryz.underlying31, hb, Result.andThen, as_directE, storeVar, Value.cells, storeCells, Addr.add]
  rw [run_store Tryz.prog W ta _ _ (by rfl)]
  simp [ht, hf]

end Go.Proofs.YtjfkgdfmkofbmaaGreatDoor

namespace Go.Proofs.YtjfkgdfmkofbmaaGreatDoor
set_option linter.unusedSimpArgs false
set_option linter.unusedVariables false
open Go.RowKit Go.Extern.Stop Go.Stop Go.Extern

theorem lt_of_cellB {w : World} {b o : Nat} {v : Value} (h : w.cell? ⟨b, o, none⟩ = some v) : b < w.heap.size := by
  rcases Nat.lt_or_ge b w.heap.size with h' | h'
  · exact h'
  · simp [World.cell?, Array.getElem?_eq_none h'] at h

theorem grownBy_tr {a b c : World} {r : Option Nat} (h : a.grownBy b r) (k : b.grownBy c r) : a.grownBy c r :=
  ⟨k.os.trans h.os, k.tape.trans h.tape, k.output.trans h.output, Nat.le_trans h.size k.size, fun i hi hr => (k.block i (Nat.lt_of_lt_of_le hi h.size) hr).trans (h.block i hi hr)⟩

theorem grownBy_setB (w : World) (c i : Nat) (u : Value) : w.grownBy (w.setCell ⟨c, i, none⟩ u) (some c) :=
  ⟨rfl, rfl, rfl, by simp [World.setCell], fun k _ hk => heap_setCell_other w _ k u (fun e => hk (by simp at e; rw [e]))⟩

theorem as_noAs (v : Value) (x : TypeId) (w : World) : (Instr.typeAssert (.iface 547 v) x 211 true).run Tryz.prog w = .ok (.tuple #[.nilIface, .bool false]) w :=
  run_typeAssert_lacksB Tryz.underlying211 (by kernel_rfl) (by kernel_rfl) v x w
theorem as_hasUn (v : Value) (x : TypeId) (w : World) : (Instr.typeAssert (.iface 547 v) x 214 true).run Tryz.prog w = .ok (.tuple #[.iface 547 v, .bool true]) w :=
  run_typeAssert_hasB Tryz.underlying214 (by kernel_rfl) v x w

set_option maxHeartbeats 4000000 in
set_option maxRecDepth 4000 in
theorem as_hit (be bt : Nat) (n : Int) (old : Value) (w : World) (hg : w.cell? ⟨0, 0, none⟩ = some (.iface 206 (.agg #[.pointer (some ⟨5, 134, none⟩)])))
    (he : w.cell? ⟨be, 1, none⟩ = some (.int .i64 n)) (ht0 : w.cell? ⟨bt, 0, none⟩ = some old) (hf0 : w.frozen? ⟨bt, 0, none⟩ = false) :
    Calls Tryz.prog 50 #[.iface 547 (.pointer (some ⟨be, 0, none⟩)), .iface 489 (.pointer (some ⟨bt, 0, none⟩))] w fun ev w' => ev = .returned (.bool true) ∧ w'.cell? ⟨bt, 0, none⟩ = some (.int .i64 n) ∧ w.grownBy w' (some bt) := by
  have h83 := @run_callFunc_extern Tryz.prog 67 _ (fun args => ReflectliteValue.unpack (args.getD 0 (.tuple #[]))) Tryz.func67 (by kernel_rfl) (by kernel_rfl) (by kernel_rfl) (by kernel_rfl)
  have h84 := @run_callFunc_extern Tryz.prog 68 _ (ReflectliteValue.methodAny (ReflectliteValue.valueError "reflectlite.Value.Type" 0) (fun t _ _ _ => ReflectliteType.toType t)) Tryz.func68 (by kernel_rfl) (by kernel_rfl) (by kernel_rfl) (by kernel_rfl)
  have h85 := @run_callFunc_extern Tryz.prog 69 _ (ReflectliteValue.method (ReflectliteValue.valueError "reflectlite.Value.IsNil" 0) ReflectliteValue.isNil) Tryz.func69 (by kernel_rfl) (by kernel_rfl) (by kernel_rfl) (by kernel_rfl)
  have h105 := @run_callFunc_extern Tryz.prog 400 _ (ReflectliteType.abiMethod fun t => do pure (.int .u8 (← Rtype.kind t))) Tryz.func400 (by kernel_rfl) (by kernel_rfl) (by kernel_rfl) (by kernel_rfl)
  have h117 := @run_callFunc_extern Tryz.prog 412 _ (ReflectliteType.method ReflectliteType.elem) Tryz.func412 (by kernel_rfl) (by kernel_rfl) (by kernel_rfl) (by kernel_rfl)
  have h118 := @run_callFunc_extern Tryz.prog 413 _ (ReflectliteType.relation "Implements" ReflectliteType.implements_) Tryz.func413 (by kernel_rfl) (by kernel_rfl) (by kernel_rfl) (by kernel_rfl)
  have h88 := @run_callFunc_extern Tryz.prog 95 _ ReflectliteType.typeOf Tryz.func95 (by kernel_rfl) (by kernel_rfl) (by kernel_rfl) (by kernel_rfl)
  have h115 := @run_callFunc_extern Tryz.prog 410 _ (ReflectliteType.relation "AssignableTo" ReflectliteType.assignableTo) Tryz.func410 (by kernel_rfl) (by kernel_rfl) (by kernel_rfl) (by kernel_rfl)
  have h89 := @run_callFunc_extern Tryz.prog 96 _ (ReflectliteValue.method (ReflectliteValue.valueError "reflectlite.Value.Elem" 0) ReflectliteValue.elem) Tryz.func96 (by kernel_rfl) (by kernel_rfl) (by kernel_rfl) (by kernel_rfl)
  have h90 := @run_callFunc_extern Tryz.prog 97 _ ReflectliteValue.set Tryz.func97 (by kernel_rfl) (by kernel_rfl) (by kernel_rfl) (by kernel_rfl)
  have q1 := as_typeOfW
  have q12 := as_noAs
  have q13 := as_hasUn
  have q2 := as_typeOfE
  have q3 := as_asgW
  have q4 := as_asgE
  have q5 := as_valueOfE
  have q6 := as_valueOfT
  have q7 := as_typeT
  have q8 := as_kindT
  have q9 := as_kindE
  have q10 := as_elemT
  have q11 := as_implE
  have n8 := as_isNilT ⟨w.heap.size, 0, none⟩ ⟨bt, 0, none⟩ ((w.alloc (.cells #[.pointer (some ⟨bt, 0, none⟩)] 489)).alloc (.cells #[.pointer (some ⟨5, 489, none⟩), .pointer (some ⟨w.heap.size, 0, none⟩), .int .u64 150] 163)) (by simp)
  have hlt : 0 < w.heap.size := by
    rcases Nat.lt_or_ge 0 w.heap.size with h | h
    · exact h
    · simp [World.cell?, Array.getElem?_eq_none h] at hg
  have hg2 : ((w.alloc (.cells #[.pointer (some ⟨bt, 0, none⟩)] 489)).alloc (.cells #[.pointer (some ⟨5, 489, none⟩), .pointer (some ⟨w.heap.size, 0, none⟩), .int .u64 150] 163)).cell? ⟨0, 0, none⟩ = some (.iface 206 (.agg #[.pointer (some ⟨5, 134, none⟩)])) := by
    rw [World.cell?_alloc_lt _ _ ⟨0, 0, none⟩ (by rw [World.size_alloc]; exact Nat.lt_succ_of_lt hlt), World.cell?_alloc_lt _ _ ⟨0, 0, none⟩ hlt]; exact hg
  have hbe : be < w.heap.size := lt_of_cellB he
  have hbt : bt < w.heap.size := lt_of_cellB ht0
  have he3 : (((w.alloc (.cells #[.pointer (some ⟨bt, 0, none⟩)] 489)).alloc (.cells #[.pointer (some ⟨5, 489, none⟩), .pointer (some ⟨w.heap.size, 0, none⟩), .int .u64 150] 163)).alloc (.cells #[.pointer (some ⟨5, 489, none⟩), .pointer (some ⟨w.heap.size, 0, none⟩), .int .u64 150] 163)).cell? ⟨be, 1, none⟩ = some (.int .i64 n) := by
    rw [World.cell?_alloc_lt _ _ ⟨be, 1, none⟩ (by simp; omega), World.cell?_alloc_lt _ _ ⟨be, 1, none⟩ (by simp; omega), World.cell?_alloc_lt _ _ ⟨be, 1, none⟩ hbe]; exact he
  have el := as_elemVT ⟨w.heap.size, 0, none⟩ ⟨bt, 0, none⟩ (((w.alloc (.cells #[.pointer (some ⟨bt, 0, none⟩)] 489)).alloc (.cells #[.pointer (some ⟨5, 489, none⟩), .pointer (some ⟨w.heap.size, 0, none⟩), .int .u64 150] 163)).alloc (.cells #[.pointer (some ⟨5, 489, none⟩), .pointer (some ⟨w.heap.size, 0, none⟩), .int .u64 150] 163)) (by rw [World.cell?_alloc_lt _ _ ⟨w.heap.size, 0, none⟩ (by simp; omega)]; simp)
  have ht4 : ((((w.alloc (.cells #[.pointer (some ⟨bt, 0, none⟩)] 489)).alloc (.cells #[.pointer (some ⟨5, 489, none⟩), .pointer (some ⟨w.heap.size, 0, none⟩), .int .u64 150] 163)).alloc (.cells #[.pointer (some ⟨5, 489, none⟩), .pointer (some ⟨w.heap.size, 0, none⟩), .int .u64 150] 163)).alloc (.cells #[.int .i64 n] 31)).cell? ⟨bt, 0, none⟩ = some old := by
    rw [World.cell?_alloc_lt _ _ ⟨bt, 0, none⟩ (by simp; omega), World.cell?_alloc_lt _ _ ⟨bt, 0, none⟩ (by simp; omega), World.cell?_alloc_lt _ _ ⟨bt, 0, none⟩ (by simp; omega), World.cell?_alloc_lt _ _ ⟨bt, 0, none⟩ hbt]; exact ht0
  have st := as_setE ⟨bt, 0, none⟩ ⟨w.heap.size + 1 + 1 + 1, 0, none⟩ n old ((((w.alloc (.cells #[.pointer (some ⟨bt, 0, none⟩)] 489)).alloc (.cells #[.pointer (some ⟨5, 489, none⟩), .pointer (some ⟨w.heap.size, 0, none⟩), .int .u64 150] 163)).alloc (.cells #[.pointer (some ⟨5, 489, none⟩), .pointer (some ⟨w.heap.size, 0, none⟩), .int .u64 150] 163)).alloc (.cells #[.int .i64 n] 31))
    (by rw [World.cell?_alloc_at _ _ _ _ (by simp)]; rfl) ht4
    (by rw [World.frozen?_alloc_old _ _ ⟨bt, 0, none⟩ (by simp; omega), World.frozen?_alloc_old _ _ ⟨bt, 0, none⟩ (by simp; omega), World.frozen?_alloc_old _ _ ⟨bt, 0, none⟩ (by simp; omega), World.frozen?_alloc_old _ _ ⟨bt, 0, none⟩ (Nat.ne_of_lt hbt)]; exact hf0)
  have H := hid (And.intro (World.cell?_setCell_same ((((w.alloc (.cells #[.pointer (some ⟨bt, 0, none⟩)] 489)).alloc (.cells #[.pointer (some ⟨5, 489, none⟩), .pointer (some ⟨w.heap.size, 0, none⟩), .int .u64 150] 163)).alloc (.cells #[.pointer (some ⟨5, 489, none⟩), .pointer (some ⟨w.heap.size, 0, none⟩), .int .u64 150] 163)).alloc (.cells #[.int .i64 n] 31)) (a := ⟨bt, 0, none⟩) (.int .i64 n) ht4)
    (grownBy_tr (grownBy_tr (grownBy_tr (grownBy_tr (World.grownBy_alloc w _ (some bt)) (World.grownBy_alloc _ _ (some bt))) (World.grownBy_alloc _ _ (some bt))) (World.grownBy_alloc _ _ (some bt))) (grownBy_setB ((((w.alloc (.cells #[.pointer (some ⟨bt, 0, none⟩)] 489)).alloc (.cells #[.pointer (some ⟨5, 489, none⟩), .pointer (some ⟨w.heap.size, 0, none⟩), .int .u64 150] 163)).alloc (.cells #[.pointer (some ⟨5, 489, none⟩), .pointer (some ⟨w.heap.size, 0, none⟩), .int .u64 150] 163)).alloc (.cells #[.int .i64 n] 31)) bt 0 (.int .i64 n))))
  clear ht4
  go_enter Tryz.func50, Tryz.ntmps50
  go_wp2
  refine wp_loop_rounds 2 ?_
  rw [rounds_succ]
  go_wp2
  rw [rounds_succ]
  go_wp2
  go_ret
  exact ⟨rfl, H.out.1, H.out.2⟩

theorem as_nil (t : Value) (w : World) : Calls Tryz.prog 50 #[.nilIface, t] w fun e w' => e = .returned (.bool false) ∧ w' = w := by
  go_enter Tryz.func50, Tryz.ntmps50
  go_wp2
  go_ret
  exact ⟨rfl, rfl⟩

theorem code_nil (w : World) : Calls Tryz.prog 207 #[.nilIface] w fun e w' => e = .returned (.int .i64 0) ∧ w.grownBy w' none := by
  go_enter Tryz.func207, Tryz.ntmps207
  go_wp2
  go_ret
  exact ⟨rfl, World.grownBy_alloc w _ none⟩

set_option maxHeartbeats 1000000 in
theorem code_wrong (be : Nat) (n : Int) (w : World) (hg : w.cell? ⟨0, 0, none⟩ = some (.iface 206 (.agg #[.pointer (some ⟨5, 134, none⟩)])))
    (he : w.cell? ⟨be, 1, none⟩ = some (.int .i64 n)) :
    Calls Tryz.prog 207 #[.iface 547 (.pointer (some ⟨be, 0, none⟩))] w fun e w' => e = .returned (.int .i64 n) ∧ w.grownBy w' none := by
  have hbe := lt_of_cellB he
  have hlt := lt_of_cellB hg
  have ha := fun old o => as_hit be w.heap.size n old (w.alloc o) (by rw [World.cell?_alloc_lt _ _ ⟨0, 0, none⟩ hlt]; exact hg) (by rw [World.cell?_alloc_lt _ _ ⟨be, 1, none⟩ hbe]; exact he)
  have hgw := fun o w' (h : (w.alloc o).grownBy w' (some w.heap.size)) => (show w.grownBy w' none from
    ⟨h.os, h.tape, h.output, Nat.le_trans (by simp) h.size, fun i hi _ => (h.block i (by simp; omega) (by simp; omega)).trans ((World.grownBy_alloc w o none).block i hi (by simp))⟩)
  go_enter Tryz.func207, Tryz.ntmps207
  go_wp2_with (go_at_call 50; refine (ha (.int .i64 0) _ (by simp) (by simp)).mono ?_; rintro e w' ⟨rfl, hc, hgr⟩)
  go_ret
  exact ⟨rfl, hgw _ _ hgr⟩

end Go.Proofs.YtjfkgdfmkofbmaaGreatDoor
