/- errors.As at an error that is a *api.Fault, and a target of type **api.Fault. -/
import Derived.Test.YtjfkgdfmkofbmaaGreatDoorZAs
import Derived.Test.YtjfkgdfmkofbmaaGreatDoorZCurB
import Derived.Test.YtjfkgdfmkofbmaaGreatDoorZScTa
import Derived.Deep.RegionWith
import Derived.Deep.RegionHeld3
import Derived.Deep.Cut
namespace Go.Proofs.YtjfkgdfmkofbmaaGreatDoor
set_option linter.unusedSimpArgs false
set_option linter.unusedVariables false
open Go.RowKit Go.Extern.Stop Go.Stop Go.Extern

theorem af_valueOfT (t : Addr) (w : World) : (ReflectliteValue.unpack (.iface 139 (.pointer (some t)))).run Tryz.prog w
    = .ok (.agg #[.pointer (some ⟨5, 139, none⟩), .pointer (some ⟨w.heap.size, 0, none⟩), .int .u64 150]) (w.alloc (.cells #[.pointer (some t)] 139)) := by kernel_rfl
theorem af_typeT (a : Addr) (w : World) : (ReflectliteValue.methodAny (ReflectliteValue.valueError "reflectlite.Value.Type" 0) (fun t _ _ _ => ReflectliteType.toType t) #[.agg #[.pointer (some ⟨5, 139, none⟩), .pointer (some a), .int .u64 150]]).run Tryz.prog w
    = .ok (.iface 206 (.agg #[.pointer (some ⟨5, 139, none⟩)])) w := by kernel_rfl
theorem af_kindT (w : World) : ((ReflectliteType.abiMethod fun t => (fun a : Nat => Value.int IntKind.u8 (a : Int)) <$> Rtype.kind t) #[.pointer (some ⟨5, 139, none⟩)]).run Tryz.prog w = .ok (.int .u8 22) w := by kernel_rfl
theorem af_kindE (w : World) : ((ReflectliteType.abiMethod fun t => (fun a : Nat => Value.int IntKind.u8 (a : Int)) <$> Rtype.kind t) #[.pointer (some ⟨5, 137, none⟩)]).run Tryz.prog w = .ok (.int .u8 22) w := by kernel_rfl
theorem af_rlm (z : Sem Value) (f : TypeId → Addr → Nat → Nat → Sem Value) (v : Value) :
    ReflectliteValue.method z f #[v] = (do match ← ReflectliteValue.parts v with | none => z | some (t, a, fl) => f t a fl (fl % 32)) := rfl
theorem af_partsT (a : Addr) (w : World) : (ReflectliteValue.parts (.agg #[.pointer (some ⟨5, 139, none⟩), .pointer (some a), .int .u64 150])).run Tryz.prog w = .ok (some (139, a, 150)) w := by kernel_rfl
theorem af_isNilT (a p : Addr) (W : World) (ha : W.cell? a = some (.pointer (some p))) :
    (ReflectliteValue.method (ReflectliteValue.valueError "reflectlite.Value.IsNil" 0) ReflectliteValue.isNil #[.agg #[.pointer (some ⟨5, 139, none⟩), .pointer (some a), .int .u64 150]]).run Tryz.prog W = .ok (.bool false) W := by
  rw [af_rlm]
  simp only [Sem.run_bind, af_partsT, Result.andThen]
  simp [ReflectliteValue.isNil, loadVar, isAgg, underlying, Tryz.underlying139, ha, Result.andThen]
theorem af_elemT (w : World) : (ReflectliteType.method ReflectliteType.elem #[.agg #[.pointer (some ⟨5, 139, none⟩)]]).run Tryz.prog w = .ok (.iface 206 (.agg #[.pointer (some ⟨5, 137, none⟩)])) w := by kernel_rfl
theorem af_implE (w : World) : (ReflectliteType.relation "Implements" ReflectliteType.implements_ #[.agg #[.pointer (some ⟨5, 137, none⟩)], .iface 206 (.agg #[.pointer (some ⟨5, 134, none⟩)])]).run Tryz.prog w = .ok (.bool true) w := by kernel_rfl
theorem af_typeOfE (v : Value) (w : World) : (ReflectliteType.typeOf #[.iface 137 v]).run Tryz.prog w = .ok (.iface 206 (.agg #[.pointer (some ⟨5, 137, none⟩)])) w := by kernel_rfl
theorem af_asgE (w : World) : (ReflectliteType.relation "AssignableTo" ReflectliteType.assignableTo #[.agg #[.pointer (some ⟨5, 137, none⟩)], .iface 206 (.agg #[.pointer (some ⟨5, 137, none⟩)])]).run Tryz.prog w = .ok (.bool true) w := by kernel_rfl
theorem af_valueOfE (n : Addr) (w : World) : (ReflectliteValue.unpack (.iface 137 (.pointer (some n)))).run Tryz.prog w
    = .ok (.agg #[.pointer (some ⟨5, 137, none⟩), .pointer (some ⟨w.heap.size, 0, none⟩), .int .u64 150]) (w.alloc (.cells #[.pointer (some n)] 137)) := by kernel_rfl
theorem af_elemOfT (w : World) : (Rtype.elem? 139).run Tryz.prog w = .ok (some 137) w := by kernel_rfl
theorem af_mkE (p : Addr) (w : World) : (ReflectliteValue.mk 137 p ReflectliteValue.flagAddr).run Tryz.prog w = .ok (.agg #[.pointer (some ⟨5, 137, none⟩), .pointer (some p), .int .u64 406]) w := by kernel_rfl
theorem af_elemVT (a p : Addr) (W : World) (ha : W.cell? a = some (.pointer (some p))) :
    (ReflectliteValue.method (ReflectliteValue.valueError "reflectlite.Value.Elem" 0) ReflectliteValue.elem #[.agg #[.pointer (some ⟨5, 139, none⟩), .pointer (some a), .int .u64 150]]).run Tryz.prog W
      = .ok (.agg #[.pointer (some ⟨5, 137, none⟩), .pointer (some p), .int .u64 406]) W := by
  rw [af_rlm]
  simp only [Sem.run_bind, af_partsT, Result.andThen]
  simp [ReflectliteValue.elem, loadVar, isAgg, underlying, Tryz.underlying139, ha, Result.andThen, af_elemOfT, af_mkE]
theorem af_rls (v x : Value) : ReflectliteValue.set #[v, x] = (do
    let (some (dst, a, fl), some (src, b, _)) := (← ReflectliteValue.parts v, ← ReflectliteValue.parts x)
      | unsupported (.noEntry "extern/(internal/reflectlite.Value).Set.zeroValue")
    if fl / ReflectliteValue.flagAddr % 2 == 0 then unsupported (.noEntry "extern/(internal/reflectlite.Value).Set.unaddressable")
    let val ← loadVar src b
    if ← Rtype.directlyAssignable dst src then storeVar dst a val
    else if ← Rtype.implements dst src then
      if (← Rtype.kind src) == 20 then
        match val with
        | .nilIface => unsupported (.noEntry "extern/reflectlite: a nil value of one interface type handed on as a value of another")
        | _ => storeVar dst a val
      else storeVar dst a (.iface src val)
    else panicString ("reflectlite.Set: value of type " ++ (← Rtype.spelt src) ++ " is not assignable to type " ++ (← Rtype.spelt dst))
    pure (.tuple #[])) := rfl
theorem af_partsEa (a : Addr) (w : World) : (ReflectliteValue.parts (.agg #[.pointer (some ⟨5, 137, none⟩), .pointer (some a), .int .u64 406])).run Tryz.prog w = .ok (some (137, a, 406)) w := by kernel_rfl
theorem af_partsE (a : Addr) (w : World) : (ReflectliteValue.parts (.agg #[.pointer (some ⟨5, 137, none⟩), .pointer (some a), .int .u64 150])).run Tryz.prog w = .ok (some (137, a, 150)) w := by kernel_rfl
theorem af_directE (w : World) : (Rtype.directlyAssignable 137 137).run Tryz.prog w = .ok true w := by kernel_rfl
theorem af_setE (ta b : Addr) (n : Addr) (old : Value) (W : World) (hb : W.cell? b = some (.pointer (some n))) (ht : W.cell? ta = some old) (hf : W.frozen? ta = false) :
    (ReflectliteValue.set #[.agg #[.pointer (some ⟨5, 137, none⟩), .pointer (some ta), .int .u64 406], .agg #[.pointer (some ⟨5, 137, none⟩), .pointer (some b), .int .u64 150]]).run Tryz.prog W
      = .ok (.tuple #[]) (W.setCell ta (.pointer (some n))) := by
  rw [af_rls]
  simp only [Sem.run_bind, af_partsEa, af_partsE, Result.andThen]
  simp [ReflectliteValue.flagAddr, loadVar, isAgg, underlying, Tryz.underlying137, hb, Result.andThen, af_directE, storeVar, Value.cells, storeCells, Addr.add]
  rw [run_store Tryz.prog W ta _ _ (by rfl)]
  simp [ht, hf]


set_option maxHeartbeats 4000000 in
set_option maxRecDepth 4000 in
theorem af_direct (bt : Nat) (n : Addr) (old : Value) (w : World) (hg : w.cell? ⟨0, 0, none⟩ = some (.iface 206 (.agg #[.pointer (some ⟨5, 134, none⟩)])))
    (ht0 : w.cell? ⟨bt, 0, none⟩ = some old) (hf0 : w.frozen? ⟨bt, 0, none⟩ = false) :
    Calls Tryz.prog 50 #[.iface 137 (.pointer (some n)), .iface 139 (.pointer (some ⟨bt, 0, none⟩))] w fun ev w' => ev = .returned (.bool true) ∧ w'.cell? ⟨bt, 0, none⟩ = some (.pointer (some n)) ∧ w.grownBy w' (some bt) := by
  have h83 := @run_callFunc_extern Tryz.prog 67 _ (fun args => ReflectliteValue.unpack (args.getD 0 (.tuple #[]))) Tryz.func67 (by kernel_rfl) (by kernel_rfl) (by kernel_rfl) (by kernel_rfl)
  have h84 := @run_callFunc_extern Tryz.prog 68 _ (ReflectliteValue.methodAny (ReflectliteValue.valueError "reflectlite.Value.Type" 0) (fun t _ _ _ => ReflectliteType.toType t)) Tryz.func68 (by kernel_rfl) (by kernel_rfl) (by kernel_rfl) (by kernel_rfl)
  have h85 := @run_callFunc_extern Tryz.prog 69 _ (ReflectliteValue.method (ReflectliteValue.valueError "reflectlite.Value.IsNil" 0) ReflectliteValue.isNil) Tryz.func69 (by kernel_rfl) (by kernel_rfl) (by kernel_rfl) (by kernel_rfl)
  have h105 := @run_callFunc_extern Tryz.prog 400 _ (ReflectliteType.abiMethod fun t => do pure (.int .u8 (← Rtype.kind t))) Tryz.func400 (by kernel_rfl) (by kernel_rfl) (by kernel_rfl) (by kernel_rfl)
  have h117 := @run_callFunc_extern Tryz.prog 412 _ (ReflectliteType.method ReflectliteType.elem) Tryz.func412 (by kernel_rfl) (by kernel_rfl) (by kernel_rfl) (by kernel_rfl)
  have h118 := @run_callFunc_extern Tryz.prog 413 _ (ReflectliteType.relation "Implements" ReflectliteType.implements_) Tryz.func413 (by kernel_rfl) (by kernel_rfl) (by kernel_rfl) (by kernel_rfl)
  have h88 := @run_callFunc_extern Tryz.prog 95 _ ReflectliteType.typeOf Tryz.func95 (by kernel_rfl) (by kernel_rfl) (by kernel_rfl) (by kernel_rfl)
  have h115 := @run_callFunc_extern Tryz.prog 410 _ (ReflectliteType.relation "AssignableTo" ReflectliteType.assignableTo) Tryz.func410 (by kernel_rfl) (by kernel_rfl) (by kernel_rfl) (by kernel_rfl)
  have h89 := @run_callFunc_extern Tryz.prog 96 _ (ReflectliteValue.method (ReflectliteValue.valueError "reflectlite.Value.Elem" 0) ReflectliteValue.elem) Tryz.func96 (by kernel_rfl) (by kernel_rfl) (by kernel_rfl) (by kernel_rfl)
  have h90 := @run_callFunc_extern Tryz.prog 97 _ ReflectliteValue.set Tryz.func97 (by kernel_rfl) (by kernel_rfl) (by kernel_rfl) (by kernel_rfl)
  have q2 := af_typeOfE
  have q4 := af_asgE
  have q5 := af_valueOfE
  have q6 := af_valueOfT
  have q7 := af_typeT
  have q8 := af_kindT
  have q9 := af_kindE
  have q10 := af_elemT
  have q11 := af_implE
  have n8 := af_isNilT ⟨w.heap.size, 0, none⟩ ⟨bt, 0, none⟩ ((w.alloc (.cells #[.pointer (some ⟨bt, 0, none⟩)] 139)).alloc (.cells #[.pointer (some ⟨5, 139, none⟩), .pointer (some ⟨w.heap.size, 0, none⟩), .int .u64 150] 163)) (by simp)
  have hlt : 0 < w.heap.size := by
    rcases Nat.lt_or_ge 0 w.heap.size with h | h
    · exact h
    · simp [World.cell?, Array.getElem?_eq_none h] at hg
  have hg2 : ((w.alloc (.cells #[.pointer (some ⟨bt, 0, none⟩)] 139)).alloc (.cells #[.pointer (some ⟨5, 139, none⟩), .pointer (some ⟨w.heap.size, 0, none⟩), .int .u64 150] 163)).cell? ⟨0, 0, none⟩ = some (.iface 206 (.agg #[.pointer (some ⟨5, 134, none⟩)])) := by
    rw [World.cell?_alloc_lt _ _ ⟨0, 0, none⟩ (by rw [World.size_alloc]; exact Nat.lt_succ_of_lt hlt), World.cell?_alloc_lt _ _ ⟨0, 0, none⟩ hlt]; exact hg
  have hbt : bt < w.heap.size := lt_of_cellB ht0
  have el := af_elemVT ⟨w.heap.size, 0, none⟩ ⟨bt, 0, none⟩ (((w.alloc (.cells #[.pointer (some ⟨bt, 0, none⟩)] 139)).alloc (.cells #[.pointer (some ⟨5, 139, none⟩), .pointer (some ⟨w.heap.size, 0, none⟩), .int .u64 150] 163)).alloc (.cells #[.pointer (some ⟨5, 139, none⟩), .pointer (some ⟨w.heap.size, 0, none⟩), .int .u64 150] 163)) (by rw [World.cell?_alloc_lt _ _ ⟨w.heap.size, 0, none⟩ (by simp; omega)]; simp)
  have ht4 : ((((w.alloc (.cells #[.pointer (some ⟨bt, 0, none⟩)] 139)).alloc (.cells #[.pointer (some ⟨5, 139, none⟩), .pointer (some ⟨w.heap.size, 0, none⟩), .int .u64 150] 163)).alloc (.cells #[.pointer (some ⟨5, 139, none⟩), .pointer (some ⟨w.heap.size, 0, none⟩), .int .u64 150] 163)).alloc (.cells #[.pointer (some n)] 137)).cell? ⟨bt, 0, none⟩ = some old := by
    rw [World.cell?_alloc_lt _ _ ⟨bt, 0, none⟩ (by simp; omega), World.cell?_alloc_lt _ _ ⟨bt, 0, none⟩ (by simp; omega), World.cell?_alloc_lt _ _ ⟨bt, 0, none⟩ (by simp; omega), World.cell?_alloc_lt _ _ ⟨bt, 0, none⟩ hbt]; exact ht0
  have st := af_setE ⟨bt, 0, none⟩ ⟨w.heap.size + 1 + 1 + 1, 0, none⟩ n old ((((w.alloc (.cells #[.pointer (some ⟨bt, 0, none⟩)] 139)).alloc (.cells #[.pointer (some ⟨5, 139, none⟩), .pointer (some ⟨w.heap.size, 0, none⟩), .int .u64 150] 163)).alloc (.cells #[.pointer (some ⟨5, 139, none⟩), .pointer (some ⟨w.heap.size, 0, none⟩), .int .u64 150] 163)).alloc (.cells #[.pointer (some n)] 137))
    (by rw [World.cell?_alloc_at _ _ _ _ (by simp)]; rfl) ht4
    (by rw [World.frozen?_alloc_old _ _ ⟨bt, 0, none⟩ (by simp; omega), World.frozen?_alloc_old _ _ ⟨bt, 0, none⟩ (by simp; omega), World.frozen?_alloc_old _ _ ⟨bt, 0, none⟩ (by simp; omega), World.frozen?_alloc_old _ _ ⟨bt, 0, none⟩ (Nat.ne_of_lt hbt)]; exact hf0)
  have H := hid (And.intro (World.cell?_setCell_same ((((w.alloc (.cells #[.pointer (some ⟨bt, 0, none⟩)] 139)).alloc (.cells #[.pointer (some ⟨5, 139, none⟩), .pointer (some ⟨w.heap.size, 0, none⟩), .int .u64 150] 163)).alloc (.cells #[.pointer (some ⟨5, 139, none⟩), .pointer (some ⟨w.heap.size, 0, none⟩), .int .u64 150] 163)).alloc (.cells #[.pointer (some n)] 137)) (a := ⟨bt, 0, none⟩) (.pointer (some n)) ht4)
    (grownBy_tr (grownBy_tr (grownBy_tr (grownBy_tr (World.grownBy_alloc w _ (some bt)) (World.grownBy_alloc _ _ (some bt))) (World.grownBy_alloc _ _ (some bt))) (World.grownBy_alloc _ _ (some bt))) (grownBy_setB ((((w.alloc (.cells #[.pointer (some ⟨bt, 0, none⟩)] 139)).alloc (.cells #[.pointer (some ⟨5, 139, none⟩), .pointer (some ⟨w.heap.size, 0, none⟩), .int .u64 150] 163)).alloc (.cells #[.pointer (some ⟨5, 139, none⟩), .pointer (some ⟨w.heap.size, 0, none⟩), .int .u64 150] 163)).alloc (.cells #[.pointer (some n)] 137)) bt 0 (.pointer (some n)))))
  clear ht4
  go_enter Tryz.func50, Tryz.ntmps50
  go_wp2
  refine wp_loop_rounds 1 ?_
  rw [rounds_succ]
  go_wp2
  go_ret
  exact ⟨rfl, H.out.1, H.out.2⟩

end Go.Proofs.YtjfkgdfmkofbmaaGreatDoor

namespace Go.Proofs.YtjfkgdfmkofbmaaGreatDoor
set_option linter.unusedSimpArgs false
set_option linter.unusedVariables false
open Go.RowKit

theorem look_no (w : World) (b c : Nat) (s : List UInt8) (h : w.heap[b]? = some (.map #[] c)) :
    (Instr.lookup 233 (.map (some b)) (.string (mkS s)) true).run Tryz.prog w = .ok (.tuple #[.int .i64 0, .bool false]) w := by
  have hc : ∀ e, (Instr.checkKey e 10000 9 (.string (mkS s))).run Tryz.prog w = .ok () w := fun e => MapKept.run_checkKey (d := .string) (k := .string (mkS s)) Tryz.underlying9 (by simp [MapKept.IsKey]) e 9999
  have hf : (Instr.findKey 9 (.string (mkS s)) []).run Tryz.prog w = .ok none w := MapKept.run_findKey (d := .string) (k := .string (mkS s)) (l := []) (a := none) Tryz.underlying9 rfl
  have hz : (zeroValue 3).run Tryz.prog w = .ok (.int .i64 0) w := by kernel_rfl
  simp [Instr.lookup, run_underlying Tryz.underlying233, MapKept.run_getObj_map h, hc, hf, hz]
theorem look_noB (w : World) (b c : Nat) (s : List UInt8) (h : w.heap[b]? = some (.map #[] c)) :
    (Instr.lookup 232 (.map (some b)) (.string (mkS s)) true).run Tryz.prog w = .ok (.tuple #[.slice none 0 0, .bool false]) w := by
  have hc : ∀ e, (Instr.checkKey e 10000 9 (.string (mkS s))).run Tryz.prog w = .ok () w := fun e => MapKept.run_checkKey (d := .string) (k := .string (mkS s)) Tryz.underlying9 (by simp [MapKept.IsKey]) e 9999
  have hf : (Instr.findKey 9 (.string (mkS s)) []).run Tryz.prog w = .ok none w := MapKept.run_findKey (d := .string) (k := .string (mkS s)) (l := []) (a := none) Tryz.underlying9 rfl
  have hz : (zeroValue 72).run Tryz.prog w = .ok (.slice none 0 0) w := by kernel_rfl
  simp [Instr.lookup, run_underlying Tryz.underlying232, MapKept.run_getObj_map h, hc, hf, hz]
/-- A fault behind a pointer. -/
def FaultAt (W : World) (v : Value) (ph : Int) (nm : List UInt8) (er : Int) : Prop := ∃ b, v = .iface 137 (.pointer (some ⟨b, 0, none⟩)) ∧ W.heap[b]? = some (.cells #[.int .i64 ph, .string (mkS nm), .int .i64 er] 47 (0, 0))
theorem FaultAt.below {W W' : World} {v : Value} {ph : Int} {nm : List UInt8} {er : Int} (h : FaultAt W v ph nm er) (hb : Below W.heap.size W W') : FaultAt W' v ph nm er := by
  obtain ⟨b, rfl, h⟩ := h
  exact ⟨b, rfl, (hb.block b (Array.getElem?_eq_some_iff.1 h).1).trans h⟩

set_option maxHeartbeats 400000 in
theorem gr_fault (w : World) (nm : List UInt8) (er : Int) : Calls Tryz.prog 201 #[.string (mkS nm), .int .i64 er] w fun e w' => ∃ v, e = .returned v ∧ FaultAt w' v 1 nm er ∧ Below w.heap.size w w' := by
  go_enter Tryz.func201, Tryz.ntmps201
  go_wp2_with fail
  go_ret
  exact ⟨_, rfl, ⟨_, rfl, heap_alloc_new w _⟩, (Below.refl _ _).alloc (Nat.le_refl _) _⟩

/-- A loader that has nothing. -/
structure EmptyL (W : World) (L : Nat) (arch : Int) : Prop where
  at_ : ∃ a b ca cb, W.heap[L]? = some (.cells #[.int .i64 arch, .map (some a), .map (some b), .slice none 0 0, .slice none 0 0] 235 (0, 0)) ∧ W.heap[a]? = some (.map #[] ca) ∧ W.heap[b]? = some (.map #[] cb)
theorem EmptyL.below {W W' : World} {L : Nat} {arch : Int} (h : EmptyL W L arch) (hb : Below W.heap.size W W') : EmptyL W' L arch := by
  obtain ⟨a, b, ca, cb, h1, h2, h3⟩ := h.at_
  exact ⟨a, b, ca, cb, (hb.block L (Array.getElem?_eq_some_iff.1 h1).1).trans h1, (hb.block a (Array.getElem?_eq_some_iff.1 h2).1).trans h2, (hb.block b (Array.getElem?_eq_some_iff.1 h3).1).trans h3⟩

theorem empty_start (w : World) (o : Obj) (arch : Int) :
    EmptyL ((((w.alloc o).alloc (.map #[] 0)).alloc (.map #[] 0)).alloc (.cells #[.int .i64 arch, .map (some (w.heap.size + 1)), .map (some (w.heap.size + 1 + 1)), .slice none 0 0, .slice none 0 0] 235)) (w.heap.size + 1 + 1 + 1) arch ∧
    Below w.heap.size w ((((w.alloc o).alloc (.map #[] 0)).alloc (.map #[] 0)).alloc (.cells #[.int .i64 arch, .map (some (w.heap.size + 1)), .map (some (w.heap.size + 1 + 1)), .slice none 0 0, .slice none 0 0] 235)) := by
  have e1 : (w.alloc o).heap.size = w.heap.size + 1 := by simp
  have b1 : Below w.heap.size w (w.alloc o) := (Below.refl _ _).alloc (Nat.le_refl _) _
  generalize w.alloc o = w1 at e1 b1 ⊢
  have e2 : (w1.alloc (.map #[] 0)).heap.size = w.heap.size + 1 + 1 := by simp [e1]
  have b2 : Below w1.heap.size w1 (w1.alloc (.map #[] 0)) := (Below.refl _ _).alloc (Nat.le_refl _) _
  have r2 := heap_alloc_new w1 (.map #[] 0)
  generalize w1.alloc (.map #[] 0) = w2 at e2 b2 r2 ⊢
  have e3 : (w2.alloc (.map #[] 0)).heap.size = w.heap.size + 1 + 1 + 1 := by simp [e2]
  have b3 : Below w2.heap.size w2 (w2.alloc (.map #[] 0)) := (Below.refl _ _).alloc (Nat.le_refl _) _
  have r3 := heap_alloc_new w2 (.map #[] 0)
  generalize w2.alloc (.map #[] 0) = w3 at e3 b3 r3 ⊢
  have b4 : Below w3.heap.size w3 (w3.alloc (.cells #[.int .i64 arch, .map (some (w.heap.size + 1)), .map (some (w.heap.size + 1 + 1)), .slice none 0 0, .slice none 0 0] 235)) := (Below.refl _ _).alloc (Nat.le_refl _) _
  have r4 := heap_alloc_new w3 (.cells #[.int .i64 arch, .map (some (w.heap.size + 1)), .map (some (w.heap.size + 1 + 1)), .slice none 0 0, .slice none 0 0] 235)
  rw [e1] at r2
  rw [e2] at r3
  rw [e3] at r4
  refine ⟨⟨_, _, 0, 0, r4, ?_, ?_⟩, b1.trans ((b2.trans ((b3.trans (b4.mono (by omega))).mono (by omega))).mono (by omega))⟩
  · exact (b4.block _ (by omega)).trans ((b3.block _ (by omega)).trans r2)
  · exact (b4.block _ (by omega)).trans r3

set_option maxHeartbeats 1000000 in
theorem gr_begin (w : World) (p ip : Option Addr) (fc ic ni : Nat) (main : List UInt8) (arch : Int) (base : Nat) (flat : Bool) (ha : arch = 1 ∨ arch = 2) :
    Calls Tryz.prog 148 #[.agg #[.slice p 0 fc, .string (mkS main), .slice ip ni ic, .int .i64 arch, .int .u64 (base : Int), .bool flat]] w fun e w' => ∃ L, e = .returned (.tuple #[.pointer (some ⟨L, 0, none⟩), .nilIface]) ∧ EmptyL w' L arch ∧ Below w.heap.size w w' := by
  have ha2 : ((arch != 1) = true ∧ (arch != 2) = false) ∨ ((arch != 1) = false ∧ (arch != 2) = true) := by
    rcases ha with rfl | rfl
    · exact .inr ⟨rfl, rfl⟩
    · exact .inl ⟨rfl, rfl⟩
  clear ha
  rcases ha2 with ⟨a1, a2⟩ | ⟨a1, a2⟩
  all_goals
    have hmm := @run_makeMap Tryz.prog
    go_enter Tryz.func148, Tryz.ntmps148
    go_wp2_with fail
    obtain ⟨h1, h2⟩ := empty_start w (.cells #[.slice p 0 fc, .string (mkS main), .slice ip ni ic, .int .i64 arch, .int .u64 (base : Int), .bool flat] 53) arch
    generalize (((w.alloc (.cells #[.slice p 0 fc, .string (mkS main), .slice ip ni ic, .int .i64 arch, .int .u64 (base : Int), .bool flat] 53)).alloc (.map #[] 0)).alloc (.map #[] 0)).alloc (.cells #[.int .i64 arch, .map (some (w.heap.size + 1)), .map (some (w.heap.size + 1 + 1)), .slice none 0 0, .slice none 0 0] 235) = W4 at h1 h2 ⊢
    have H := hid (And.intro h1 h2)
    clear h1 h2
    refine wp_loop_rounds 1 ?_
    rw [rounds_succ]
    go_wp2_with fail
    refine bodyPost_ret (v := .tuple #[.pointer (some ⟨w.heap.size + 1 + 1 + 1, 0, none⟩), .nilIface]) (by simp [results, Tryz.results148, go_sem]) rfl ?_
    exact ⟨_, rfl, H.out.1, H.out.2⟩

set_option maxHeartbeats 1000000 in
theorem gr_load_no (w : World) (L : Nat) (arch : Int) (nm : List UInt8) (k : Int) (h : EmptyL w L arch) :
    Calls Tryz.prog 149 #[.pointer (some ⟨L, 0, none⟩), .string (mkS nm), .int .i64 k] w fun e w' => ∃ v, e = .returned (.tuple #[.int .i64 (-1), v]) ∧ FaultAt w' v 1 nm 17 ∧ Below w.heap.size w w' := by
  obtain ⟨a, b, ca, cb, h1, h2, h3⟩ := h.at_
  have x1 : w.cell? ⟨L, 1, none⟩ = some (.map (some a)) := cell_of_row w L 1 _ _ _ h1
  have x2 : w.cell? ⟨L, 2, none⟩ = some (.map (some b)) := cell_of_row w L 2 _ _ _ h1
  have l1 := look_noB w a ca nm h2
  have l2 := look_no w b cb nm h3
  clear h1 h2 h3 h
  go_enter Tryz.func149, Tryz.ntmps149
  go_wp2_with fail
  refine (gr_fault _ nm 17).mono ?_
  rintro e w1 ⟨v, rfl, hf, hb⟩
  obtain ⟨fb, rfl, hfb⟩ := hf
  have H := hid (And.intro hfb hb)
  clear hfb hb
  go_wp2_with fail
  refine bodyPost_ret (v := .tuple #[.int .i64 (-1), .iface 137 (.pointer (some ⟨fb, 0, none⟩))]) (by simp [results, Tryz.results149, go_sem]) rfl ?_
  exact ⟨_, rfl, ⟨fb, rfl, H.out.1⟩, H.out.2⟩

/-- A job's value, without files. -/
def noFiles (p ip : Option Addr) (fc ic ni : Nat) (main : List UInt8) (arch : Int) (base : Nat) (flat : Bool) : Array Value := #[.slice p 0 fc, .string (mkS main), .slice ip ni ic, .int .i64 arch, .int .u64 (base : Int), .bool flat]

set_option maxHeartbeats 1000000 in
theorem gr_all_no (w : World) (p ip : Option Addr) (fc ic ni : Nat) (main : List UInt8) (arch : Int) (base : Nat) (flat : Bool) (ha : arch = 1 ∨ arch = 2) :
    Calls Tryz.prog 108 #[.agg #[.slice p 0 fc, .string (mkS main), .slice ip ni ic, .int .i64 arch, .int .u64 (base : Int), .bool flat]] w fun e w' => ∃ v, e = .returned (.tuple #[.pointer none, v]) ∧ FaultAt w' v 1 main 17 ∧ Below w.heap.size w w' := by
  have hb0 := (Below.refl w.heap.size w).alloc (Nat.le_refl _) (.cells #[.slice p 0 fc, .string (mkS main), .slice ip ni ic, .int .i64 arch, .int .u64 (base : Int), .bool flat] 53)
  have hx0 := heap_alloc_new w (.cells #[.slice p 0 fc, .string (mkS main), .slice ip ni ic, .int .i64 arch, .int .u64 (base : Int), .bool flat] 53)
  have H0 := hid (And.intro hb0 hx0)
  clear hb0 hx0
  go_enter Tryz.func108, Tryz.ntmps108
  go_wp2_with fail
  refine (gr_begin _ p ip fc ic ni main arch base flat ha).mono ?_
  rintro e w1 ⟨L, rfl, hL, hb1⟩
  have hx1 := (hb1.block w.heap.size (by simp)).trans H0.out.2
  have x1 : w1.cell? ⟨w.heap.size, 1, none⟩ = some (.string (mkS main)) := cell_of_row w1 w.heap.size 1 _ _ _ hx1
  have H1 := hid (And.intro hL (H0.out.1.trans (hb1.mono (by simp))))
  clear hL hb1 hx1
  go_wp2_with fail
  refine (gr_load_no _ L arch main 2 H1.out.1).mono ?_
  rintro e w2 ⟨v, rfl, hf, hb2⟩
  obtain ⟨fb, rfl, hfb⟩ := hf
  have H2 := hid (And.intro hfb (H1.out.2.trans (hb2.mono H1.out.2.size)))
  clear hfb hb2
  go_wp2_with fail
  refine bodyPost_ret (v := .tuple #[.pointer none, .iface 137 (.pointer (some ⟨fb, 0, none⟩))]) (by simp [results, Tryz.results108, go_sem]) rfl ?_
  exact ⟨_, rfl, ⟨fb, rfl, H2.out.1⟩, H2.out.2⟩
end Go.Proofs.YtjfkgdfmkofbmaaGreatDoor

namespace Go.Proofs.YtjfkgdfmkofbmaaGreatDoor
set_option linter.unusedSimpArgs false
set_option linter.unusedVariables false
open Go.RowKit

theorem ET.lt {w : World} (h : ET w) : 0 < w.heap.size := lt_of_cellB h
theorem ET.below {B : Nat} {w w' : World} (h : ET w) (hB : 0 < B) (hb : Below B w w') : ET w' := below_cell' (a := ⟨0, 0, none⟩) hb hB h
theorem FaultAt.cells {W : World} {b : Nat} {ph : Int} {nm : List UInt8} {er : Int} (h : W.heap[b]? = some (.cells #[.int .i64 ph, .string (mkS nm), .int .i64 er] 47 (0, 0))) :
    W.cell? ⟨b, 0, none⟩ = some (.int .i64 ph) ∧ W.cell? ⟨b, 1, none⟩ = some (.string (mkS nm)) ∧ W.cell? ⟨b, 2, none⟩ = some (.int .i64 er) := ⟨cell_of_row W b 0 _ _ _ h, cell_of_row W b 1 _ _ _ h, cell_of_row W b 2 _ _ _ h⟩

set_option maxHeartbeats 1000000 in
theorem gr_Load_no (w : World) (p ip : Option Addr) (fc ic ni : Nat) (main : List UInt8) (arch : Int) (base : Nat) (flat : Bool) (ha : arch = 1 ∨ arch = 2) (hE : ET w) :
    Calls Tryz.prog 84 #[.agg #[.slice p 0 fc, .string (mkS main), .slice ip ni ic, .int .i64 arch, .int .u64 (base : Int), .bool flat]] w fun e w' => e = .returned (.tuple #[.slice none 0 0, .slice none 0 0, .string (mkS main), .int .i64 17]) ∧ Below w.heap.size w w' := by
  have hb0 := (Below.refl w.heap.size w).alloc (Nat.le_refl _) (.cells #[.slice p 0 fc, .string (mkS main), .slice ip ni ic, .int .i64 arch, .int .u64 (base : Int), .bool flat] 53)
  have H0 := hid (And.intro hb0 hE)
  clear hb0 hE
  go_enter Tryz.func84, Tryz.ntmps84
  go_wp2_with fail
  refine (gr_all_no _ p ip fc ic ni main arch base flat ha).mono ?_
  rintro e w1 ⟨v, rfl, hf, hb1⟩
  obtain ⟨fb, rfl, hfb⟩ := hf
  have hb2 := H0.out.1.trans (hb1.mono (by simp))
  have hal : Below w1.heap.size w1 (w1.alloc (.cells #[.pointer none] 137)) := (Below.refl _ _).alloc (Nat.le_refl _) _
  have hfl := (Array.getElem?_eq_some_iff.1 hfb).1
  have hE2 : ET (w1.alloc (.cells #[.pointer none] 137)) := (H0.out.2.below H0.out.2.lt hb2).below (Nat.lt_of_lt_of_le H0.out.2.lt hb2.size) hal
  have hrow := heap_alloc_new w1 (.cells #[.pointer none] 137)
  have H1 := hid (And.intro ((hal.block fb hfl).trans hfb) (And.intro (hb2.trans (hal.mono hb2.size)) (And.intro hfl (And.intro hb2.size hE2))))
  clear hfb hb1 hb2 hal hfl hE2
  go_wp2_with fail
  refine (af_direct w1.heap.size ⟨fb, 0, none⟩ (.pointer none) _ H1.out.2.2.2.2 (cell_of_row _ w1.heap.size 0 _ _ _ hrow) (frozen_of_row _ w1.heap.size 0 _ _ hrow)).mono ?_
  rintro e w3 ⟨rfl, hbt, hg3⟩
  have hfb3 := (hg3.block fb (Array.getElem?_eq_some_iff.1 H1.out.1).1 (fun e => by cases e; exact Nat.lt_irrefl _ H1.out.2.2.1)).trans H1.out.1
  obtain ⟨y0, y1, y2⟩ := FaultAt.cells hfb3
  have hb3 : Below w.heap.size w w3 := Below.put H1.out.2.1 (Nat.le_refl _) H1.out.2.2.2.1 hg3
  have H3 := hid hb3
  clear hb3 hfb3 hg3 hrow y0
  go_wp2_with fail
  go_region
  go_wp2_with fail
  refine bodyPost_ret (v := .tuple #[.slice none 0 0, .slice none 0 0, .string (mkS main), .int .i64 17]) (by simp [results, Tryz.results84, go_sem]) rfl ?_
  exact ⟨rfl, ⟨H3.out.os, H3.out.tape, H3.out.output, H3.out.size, H3.out.block⟩⟩

set_option maxHeartbeats 1000000 in
theorem ld_images_no (w : World) (k : Nat) (p ip : Option Addr) (fc ic ni : Nat) (main : List UInt8) (arch : Int) (base : Nat) (flat : Bool) (ha : arch = 1 ∨ arch = 2) (hE : ET w) (hk : w.heap[k]? = some (.cells #[.slice p 0 fc, .string (mkS main), .slice ip ni ic, .int .i64 arch, .int .u64 (base : Int), .bool flat, .slice none 0 0, .slice none 0 0, .pointer none, .slice none 0 0, .slice none 0 0] 155 (0, 0))) :
    Calls Tryz.prog 60 #[.pointer (some ⟨k, 0, none⟩)] w fun e w' => ∃ v, e = .returned v ∧ FaultAt w' v 1 main 17 ∧ Below w.heap.size w w' := by
  have x0 : w.cell? ⟨k, 0, none⟩ = some (.slice p 0 fc) := cell_of_row w k 0 _ _ _ hk
  have x1 : w.cell? ⟨k, 1, none⟩ = some (.string (mkS main)) := cell_of_row w k 1 _ _ _ hk
  have x2 : w.cell? ⟨k, 2, none⟩ = some (.slice ip ni ic) := cell_of_row w k 2 _ _ _ hk
  have x3 : w.cell? ⟨k, 3, none⟩ = some (.int .i64 arch) := cell_of_row w k 3 _ _ _ hk
  have x4 : w.cell? ⟨k, 4, none⟩ = some (.int .u64 (base : Int)) := cell_of_row w k 4 _ _ _ hk
  have x5 : w.cell? ⟨k, 5, none⟩ = some (.bool flat) := cell_of_row w k 5 _ _ _ hk
  have H := hid hE
  clear hk hE
  go_enter Tryz.func60, Tryz.ntmps60
  go_wp2_with fail
  refine (gr_Load_no _ p ip fc ic ni main arch base flat ha H.out).mono ?_
  rintro e w1 ⟨rfl, hb1⟩
  have hal : Below w1.heap.size w1 (w1.alloc (.cells #[.int .i64 1, .string (mkS main), .int .i64 17] 47)) := (Below.refl _ _).alloc (Nat.le_refl _) _
  have H1 := hid (hb1.trans (hal.mono hb1.size))
  clear hb1 hal
  go_wp2_with fail
  go_ret
  exact ⟨_, rfl, ⟨_, rfl, heap_alloc_new w1 _⟩, H1.out⟩

theorem setSelf {W : World} {X : Nat} {t : TypeId} {vs : Array Value} (h : W.heap[X]? = some (.cells vs t (0, 0))) (i : Nat) (v : Value) (hi : vs[i]? = some v) : W.setCell ⟨X, i, none⟩ v = W := by
  have e : vs.setIfInBounds i v = vs := by
    apply Array.ext_getElem?
    intro j
    rw [Array.getElem?_setIfInBounds]
    split
    · rename_i hij
      subst hij
      split
      · exact hi.symm
      · rename_i hlt
        rw [Array.getElem?_eq_none (by omega)]
    · rfl
  have hh : (W.setCell ⟨X, i, none⟩ v).heap = W.heap := by
    apply Array.ext_getElem?
    intro j
    by_cases hj : j = X
    · subst hj
      rw [heap_setCell_same _ _ _ _ _ _ h, e]; exact h.symm
    · exact heap_setCell_other W _ j v (by simpa using hj)
  cases W with
  | mk heap tape drawn os output =>
    simp only [World.setCell] at hh ⊢
    rw [hh]

theorem alloc4 (w : World) (o1 o2 o3 o4 : Obj) :
    ((((w.alloc o1).alloc o2).alloc o3).alloc o4).heap[w.heap.size]? = some o1 ∧ ((((w.alloc o1).alloc o2).alloc o3).alloc o4).heap[w.heap.size + 1]? = some o2 ∧ ((((w.alloc o1).alloc o2).alloc o3).alloc o4).heap[w.heap.size + 1 + 1]? = some o3 ∧ ((((w.alloc o1).alloc o2).alloc o3).alloc o4).heap[w.heap.size + 1 + 1 + 1]? = some o4 ∧
    Below w.heap.size w ((((w.alloc o1).alloc o2).alloc o3).alloc o4) ∧ ((((w.alloc o1).alloc o2).alloc o3).alloc o4).heap.size = w.heap.size + 1 + 1 + 1 + 1 := by
  have e1 : (w.alloc o1).heap.size = w.heap.size + 1 := by simp
  have b1 : Below w.heap.size w (w.alloc o1) := (Below.refl _ _).alloc (Nat.le_refl _) _
  have r1 := heap_alloc_new w o1
  generalize w.alloc o1 = w1 at e1 b1 r1 ⊢
  have e2 : (w1.alloc o2).heap.size = w.heap.size + 1 + 1 := by simp [e1]
  have b2 : Below w1.heap.size w1 (w1.alloc o2) := (Below.refl _ _).alloc (Nat.le_refl _) _
  have r2 := heap_alloc_new w1 o2
  generalize w1.alloc o2 = w2 at e2 b2 r2 ⊢
  have e3 : (w2.alloc o3).heap.size = w.heap.size + 1 + 1 + 1 := by simp [e2]
  have b3 : Below w2.heap.size w2 (w2.alloc o3) := (Below.refl _ _).alloc (Nat.le_refl _) _
  have r3 := heap_alloc_new w2 o3
  generalize w2.alloc o3 = w3 at e3 b3 r3 ⊢
  have e4 : (w3.alloc o4).heap.size = w.heap.size + 1 + 1 + 1 + 1 := by simp [e3]
  have b4 : Below w3.heap.size w3 (w3.alloc o4) := (Below.refl _ _).alloc (Nat.le_refl _) _
  have r4 := heap_alloc_new w3 o4
  generalize w3.alloc o4 = w4 at e4 b4 r4 ⊢
  rw [e1] at r2
  rw [e2] at r3
  rw [e3] at r4
  refine ⟨(b4.block _ (by omega)).trans ((b3.block _ (by omega)).trans ((b2.block _ (by omega)).trans r1)), (b4.block _ (by omega)).trans ((b3.block _ (by omega)).trans r2), (b4.block _ (by omega)).trans r3, r4, b1.trans ((b2.trans ((b3.trans (b4.mono (by omega))).mono (by omega))).mono (by omega)), e4⟩

set_option maxHeartbeats 2000000 in
theorem ld_Load_no (w : World) (p ip : Option Addr) (fc ic ni : Nat) (main : List UInt8) (arch : Int) (base : Nat) (flat : Bool) (ha : arch = 1 ∨ arch = 2) (hE : ET w) :
    Calls Tryz.prog 49 #[.agg #[.slice p 0 fc, .string (mkS main), .slice ip ni ic, .int .i64 arch, .int .u64 (base : Int), .bool flat]] w fun e w' => ∃ v, e = .returned (.tuple #[.agg #[.slice none 0 0, .slice none 0 0, .slice none 0 0, .int .u64 0], v]) ∧ FaultAt w' v 1 main 17 ∧ Below w.heap.size w w' := by
  have HE := hid hE
  clear hE
  go_enter Tryz.func49, Tryz.ntmps49
  go_upto_region 3 with fail
  obtain ⟨-, r2, r3, r4, hb4, hs4⟩ := alloc4 w (.cells #[.slice p 0 fc, .string (mkS main), .slice ip ni ic, .int .i64 arch, .int .u64 (base : Int), .bool flat] 53) (.cells #[.slice none 0 0, .slice none 0 0, .slice none 0 0, .int .u64 0] 38) (.cells #[.slice p 0 fc, .string (mkS main), .slice ip ni ic, .int .i64 arch, .int .u64 (base : Int), .bool flat, .slice none 0 0, .slice none 0 0, .pointer none, .slice none 0 0, .slice none 0 0] 155) (.cells #[.func (.func 60) #[.pointer (some ⟨w.heap.size + 1 + 1, 0, none⟩)] #[], .func (.func 61) #[.pointer (some ⟨w.heap.size + 1 + 1, 0, none⟩)] #[], .func (.func 62) #[.pointer (some ⟨w.heap.size + 1 + 1, 0, none⟩)] #[], .func (.func 63) #[.pointer (some ⟨w.heap.size + 1 + 1, 0, none⟩)] #[], .func (.func 64) #[.pointer (some ⟨w.heap.size + 1 + 1, 0, none⟩)] #[]] 156)
  generalize ((((w.alloc (.cells #[.slice p 0 fc, .string (mkS main), .slice ip ni ic, .int .i64 arch, .int .u64 (base : Int), .bool flat] 53)).alloc (.cells #[.slice none 0 0, .slice none 0 0, .slice none 0 0, .int .u64 0] 38)).alloc (.cells #[.slice p 0 fc, .string (mkS main), .slice ip ni ic, .int .i64 arch, .int .u64 (base : Int), .bool flat, .slice none 0 0, .slice none 0 0, .pointer none, .slice none 0 0, .slice none 0 0] 155)).alloc (.cells #[.func (.func 60) #[.pointer (some ⟨w.heap.size + 1 + 1, 0, none⟩)] #[], .func (.func 61) #[.pointer (some ⟨w.heap.size + 1 + 1, 0, none⟩)] #[], .func (.func 62) #[.pointer (some ⟨w.heap.size + 1 + 1, 0, none⟩)] #[], .func (.func 63) #[.pointer (some ⟨w.heap.size + 1 + 1, 0, none⟩)] #[], .func (.func 64) #[.pointer (some ⟨w.heap.size + 1 + 1, 0, none⟩)] #[]] 156)) = W4 at r2 r3 r4 hb4 hs4 ⊢
  have hE4 := HE.out.below HE.out.lt hb4
  have c0 : W4.cell? ⟨w.heap.size + 1 + 1 + 1, 0, none⟩ = some (.func (.func 60) #[.pointer (some ⟨w.heap.size + 1 + 1, 0, none⟩)] #[]) := cell_of_row W4 _ 0 _ _ _ r4
  have H4 := hid (And.intro r2 (And.intro r3 (And.intro hb4 hE4)))
  clear r2 r3 r4 hE4
  refine wp_loop_rounds 1 ?_
  rw [rounds_succ]
  go_wp2_with fail
  refine (ld_images_no W4 _ p ip fc ic ni main arch base flat ha H4.out.2.2.2 H4.out.2.1).mono ?_
  rintro e w5 ⟨v, rfl, hf, hb5⟩
  obtain ⟨fb, rfl, hfb⟩ := hf
  have hr5 := (hb5.block _ (by omega)).trans H4.out.1
  have z0 : w5.cell? ⟨w.heap.size + 1, 0, none⟩ = some (.slice none 0 0) := cell_of_row w5 _ 0 _ _ _ hr5
  have z1 : w5.cell? ⟨w.heap.size + 1, 1, none⟩ = some (.slice none 0 0) := cell_of_row w5 _ 1 _ _ _ hr5
  have z2 : w5.cell? ⟨w.heap.size + 1, 2, none⟩ = some (.slice none 0 0) := cell_of_row w5 _ 2 _ _ _ hr5
  have z3 : w5.cell? ⟨w.heap.size + 1, 3, none⟩ = some (.int .u64 0) := cell_of_row w5 _ 3 _ _ _ hr5
  have zf := fun i => frozen_of_row w5 (w.heap.size + 1) i _ _ hr5
  have q0 := setSelf hr5 0 (.slice none 0 0) rfl
  have q1 := setSelf hr5 1 (.slice none 0 0) rfl
  have q2 := setSelf hr5 2 (.slice none 0 0) rfl
  have q3 := setSelf hr5 3 (.int .u64 0) rfl
  have H5 := hid (And.intro hfb (H4.out.2.2.1.trans (hb5.mono hb4.size)))
  clear hfb hb5 hr5
  go_wp2_with fail
  refine bodyPost_ret (v := .tuple #[.agg #[.slice none 0 0, .slice none 0 0, .slice none 0 0, .int .u64 0], .iface 137 (.pointer (some ⟨fb, 0, none⟩))]) (by simp [results, Tryz.results49, go_sem, z0, z1, z2, z3]) rfl ?_
  exact ⟨_, rfl, ⟨fb, rfl, H5.out.1⟩, H5.out.2⟩

theorem alloc3X (w : World) (o1 o2 o3 : Obj) :
    (((w.alloc o1).alloc o2).alloc o3).heap[w.heap.size]? = some o1 ∧ (((w.alloc o1).alloc o2).alloc o3).heap[w.heap.size + 1]? = some o2 ∧ (((w.alloc o1).alloc o2).alloc o3).heap[w.heap.size + 1 + 1]? = some o3 ∧
    Below w.heap.size w (((w.alloc o1).alloc o2).alloc o3) ∧ (((w.alloc o1).alloc o2).alloc o3).heap.size = w.heap.size + 1 + 1 + 1 := by
  have e1 : (w.alloc o1).heap.size = w.heap.size + 1 := by simp
  have b1 : Below w.heap.size w (w.alloc o1) := (Below.refl _ _).alloc (Nat.le_refl _) _
  have r1 := heap_alloc_new w o1
  generalize w.alloc o1 = w1 at e1 b1 r1 ⊢
  have e2 : (w1.alloc o2).heap.size = w.heap.size + 1 + 1 := by simp [e1]
  have b2 : Below w1.heap.size w1 (w1.alloc o2) := (Below.refl _ _).alloc (Nat.le_refl _) _
  have r2 := heap_alloc_new w1 o2
  generalize w1.alloc o2 = w2 at e2 b2 r2 ⊢
  have e3 : (w2.alloc o3).heap.size = w.heap.size + 1 + 1 + 1 := by simp [e2]
  have b3 : Below w2.heap.size w2 (w2.alloc o3) := (Below.refl _ _).alloc (Nat.le_refl _) _
  have r3 := heap_alloc_new w2 o3
  generalize w2.alloc o3 = w3 at e3 b3 r3 ⊢
  rw [e1] at r2
  rw [e2] at r3
  exact ⟨(b3.block _ (by omega)).trans ((b2.block _ (by omega)).trans r1), (b3.block _ (by omega)).trans r2, r3, b1.trans ((b2.trans (b3.mono (by omega))).mono (by omega)), e3⟩
theorem alloc2X (w : World) (o1 o2 : Obj) : ((w.alloc o1).alloc o2).heap[w.heap.size + 1]? = some o2 ∧ Below w.heap.size w ((w.alloc o1).alloc o2) ∧ ((w.alloc o1).alloc o2).heap.size = w.heap.size + 1 + 1 := by
  have e1 : (w.alloc o1).heap.size = w.heap.size + 1 := by simp
  have b1 : Below w.heap.size w (w.alloc o1) := (Below.refl _ _).alloc (Nat.le_refl _) _
  generalize w.alloc o1 = w1 at e1 b1 ⊢
  have e2 : (w1.alloc o2).heap.size = w.heap.size + 1 + 1 := by simp [e1]
  have b2 : Below w1.heap.size w1 (w1.alloc o2) := (Below.refl _ _).alloc (Nat.le_refl _) _
  have r2 := heap_alloc_new w1 o2
  rw [e1] at r2
  exact ⟨r2, b1.trans (b2.mono (by omega)), e2⟩

set_option maxHeartbeats 2000000 in
theorem ld_Run_no (w : World) (p ip : Option Addr) (fc ic ni : Nat) (main : List UInt8) (arch : Int) (base : Nat) (flat : Bool) (ha : arch = 1 ∨ arch = 2) (hE : ET w) :
    Calls Tryz.prog 28 #[.agg #[.slice p 0 fc, .string (mkS main), .slice ip ni ic, .int .i64 arch, .int .u64 (base : Int), .bool flat]] w fun e w' => e = .returned (.tuple #[.agg #[.slice none 0 0, .slice none 0 0, .slice none 0 0, .int .u64 0], .agg #[.int .i64 1, .string (mkS main), .int .i64 17]]) ∧ Below w.heap.size w w' := by
  have HE := hid hE
  clear hE
  go_enter Tryz.func28, Tryz.ntmps28
  go_upto_region 1 with fail
  obtain ⟨r0, r1, r2, hb3, hs3⟩ := alloc3X w (.cells #[.slice p 0 fc, .string (mkS main), .slice ip ni ic, .int .i64 arch, .int .u64 (base : Int), .bool flat] 53) (.cells #[.slice none 0 0, .slice none 0 0, .slice none 0 0, .int .u64 0] 38) (.cells #[.int .i64 0, .string ⟨#[]⟩, .int .i64 0] 47)
  generalize (((w.alloc (.cells #[.slice p 0 fc, .string (mkS main), .slice ip ni ic, .int .i64 arch, .int .u64 (base : Int), .bool flat] 53)).alloc (.cells #[.slice none 0 0, .slice none 0 0, .slice none 0 0, .int .u64 0] 38)).alloc (.cells #[.int .i64 0, .string ⟨#[]⟩, .int .i64 0] 47)) = W3 at r0 r1 r2 hb3 hs3 ⊢
  have hE3 := HE.out.below HE.out.lt hb3
  obtain ⟨x0, x1, x2, x3, x4, x5⟩ := row6 r0
  have H3 := hid (And.intro r1 (And.intro r2 (And.intro hb3 hE3)))
  clear r0 r1 r2 hE3
  go_wp2_with fail
  refine (ld_Load_no W3 p ip fc ic ni main arch base flat ha H3.out.2.2.2).mono ?_
  rintro e w4 ⟨v, rfl, hf, hb4⟩
  obtain ⟨fb, rfl, hfb⟩ := hf
  have hs4 := hb4.size
  have hb4' := H3.out.2.2.1.trans (hb4.mono hb3.size)
  have hfl := (Array.getElem?_eq_some_iff.1 hfb).1
  obtain ⟨q5, hb5, hs5⟩ := alloc2X w4 (.cells #[.slice none 0 0, .slice none 0 0, .slice none 0 0, .int .u64 0] 38) (.cells #[.pointer none] 137)
  have H4 := hid (And.intro ((hb5.block _ hfl).trans hfb) (And.intro ((hb5.block _ (by omega)).trans ((hb4.block _ (by omega)).trans H3.out.1)) (And.intro ((hb5.block _ (by omega)).trans ((hb4.block _ (by omega)).trans H3.out.2.1)) (And.intro (hb4'.trans (hb5.mono hb4'.size)) (And.intro ((H3.out.2.2.2.below H3.out.2.2.2.lt hb4).below (by have := H3.out.2.2.2.lt; omega) hb5) (And.intro q5 hfl))))))
  clear hfb hb4 hb4' hfl q5 x0 x1 x2 x3 x4 x5
  go_upto_region 3 with fail
  generalize ((w4.alloc (.cells #[.slice none 0 0, .slice none 0 0, .slice none 0 0, .int .u64 0] 38)).alloc (.cells #[.pointer none] 137)) = W5 at hb5 hs5 H4 ⊢
  go_wp2_with fail
  refine (af_direct (w4.heap.size + 1) ⟨fb, 0, none⟩ (.pointer none) W5 H4.out.2.2.2.2.1 (cell_of_row _ _ 0 _ _ _ H4.out.2.2.2.2.2.1) (frozen_of_row _ _ 0 _ _ H4.out.2.2.2.2.2.1)).mono ?_
  rintro e w6 ⟨rfl, hbt, hg6⟩
  have g0 := (hg6.block fb (by have := H4.out.2.2.2.2.2.2; omega) (fun e => by have h1 := Option.some.inj e; have := H4.out.2.2.2.2.2.2; omega)).trans H4.out.1
  have g1 := (hg6.block (w.heap.size + 1) (by omega) (fun e => by have h1 := Option.some.inj e; omega)).trans H4.out.2.1
  have g2 := (hg6.block (w.heap.size + 1 + 1) (by omega) (fun e => by have h1 := Option.some.inj e; omega)).trans H4.out.2.2.1
  have hb6 : Below w.heap.size w w6 := Below.put H4.out.2.2.2.1 (Nat.le_refl _) (by omega) hg6
  have H6 := hid (And.intro g0 (And.intro g1 (And.intro g2 hb6)))
  clear g0 g1 g2 hb6 hg6
  obtain ⟨y0, y1, y2⟩ := FaultAt.cells H6.out.1
  have z0 : w6.cell? ⟨w.heap.size + 1, 0, none⟩ = some (.slice none 0 0) := cell_of_row w6 _ 0 _ _ _ H6.out.2.1
  have z1 : w6.cell? ⟨w.heap.size + 1, 1, none⟩ = some (.slice none 0 0) := cell_of_row w6 _ 1 _ _ _ H6.out.2.1
  have z2 : w6.cell? ⟨w.heap.size + 1, 2, none⟩ = some (.slice none 0 0) := cell_of_row w6 _ 2 _ _ _ H6.out.2.1
  have z3 : w6.cell? ⟨w.heap.size + 1, 3, none⟩ = some (.int .u64 0) := cell_of_row w6 _ 3 _ _ _ H6.out.2.1
  have zf := fun i => frozen_of_row w6 (w.heap.size + 1) i _ _ H6.out.2.1
  have f0 : w6.cell? ⟨w.heap.size + 1 + 1, 0, none⟩ = some (.int .i64 0) := cell_of_row w6 _ 0 _ _ _ H6.out.2.2.1
  have f1 : w6.cell? ⟨w.heap.size + 1 + 1, 1, none⟩ = some (.string ⟨#[]⟩) := cell_of_row w6 _ 1 _ _ _ H6.out.2.2.1
  have f2 : w6.cell? ⟨w.heap.size + 1 + 1, 2, none⟩ = some (.int .i64 0) := cell_of_row w6 _ 2 _ _ _ H6.out.2.2.1
  have ff := fun i => frozen_of_row w6 (w.heap.size + 1 + 1) i _ _ H6.out.2.2.1
  have hrd : w6.drew.heap[w.heap.size + 1]? = some (.cells #[.slice none 0 0, .slice none 0 0, .slice none 0 0, .int .u64 0] 38 (0, 0)) := H6.out.2.1
  have q0 := setSelf hrd 0 (.slice none 0 0) rfl
  have q1 := setSelf hrd 1 (.slice none 0 0) rfl
  have q2 := setSelf hrd 2 (.slice none 0 0) rfl
  have q3 := setSelf hrd 3 (.int .u64 0) rfl
  clear hrd
  go_wp2_with fail
  go_region
  all_goals
    go_wp2_with fail
    obtain ⟨hg, hrow⟩ := put3 (i1 := 0) (i2 := 1) (i3 := 2) (.int .i64 1) (.string (mkS main)) (.int .i64 17) H6.out.2.2.1
    generalize ((w6.setCell ⟨w.heap.size + 1 + 1, 0, none⟩ (.int .i64 1)).setCell ⟨w.heap.size + 1 + 1, 1, none⟩ (.string (mkS main))).setCell ⟨w.heap.size + 1 + 1, 2, none⟩ (.int .i64 17) = W7 at hg hrow ⊢
    have hb7 : Below w.heap.size w W7 := Below.put H6.out.2.2.2 (Nat.le_refl _) (by omega) hg
    have hl7 := (hg.block (w.heap.size + 1) (Array.getElem?_eq_some_iff.1 H6.out.2.1).1 (fun e => by have h1 := Option.some.inj e; omega)).trans H6.out.2.1
    clear z0 z1 z2 z3 f0 f1 f2
    have z0 : W7.cell? ⟨w.heap.size + 1, 0, none⟩ = some (.slice none 0 0) := cell_of_row W7 _ 0 _ _ _ hl7
    have z1 : W7.cell? ⟨w.heap.size + 1, 1, none⟩ = some (.slice none 0 0) := cell_of_row W7 _ 1 _ _ _ hl7
    have z2 : W7.cell? ⟨w.heap.size + 1, 2, none⟩ = some (.slice none 0 0) := cell_of_row W7 _ 2 _ _ _ hl7
    have z3 : W7.cell? ⟨w.heap.size + 1, 3, none⟩ = some (.int .u64 0) := cell_of_row W7 _ 3 _ _ _ hl7
    have f0 : W7.cell? ⟨w.heap.size + 1 + 1, 0, none⟩ = some (.int .i64 1) := cell_of_row W7 _ 0 _ _ _ hrow
    have f1 : W7.cell? ⟨w.heap.size + 1 + 1, 1, none⟩ = some (.string (mkS main)) := cell_of_row W7 _ 1 _ _ _ hrow
    have f2 : W7.cell? ⟨w.heap.size + 1 + 1, 2, none⟩ = some (.int .i64 17) := cell_of_row W7 _ 2 _ _ _ hrow
    refine bodyPost_ret (v := .tuple #[.agg #[.slice none 0 0, .slice none 0 0, .slice none 0 0, .int .u64 0], .agg #[.int .i64 1, .string (mkS main), .int .i64 17]]) (by simp [results, Tryz.results28, go_sem, z0, z1, z2, z3, f0, f1, f2]) rfl ?_
    exact ⟨rfl, ⟨hb7.os, hb7.tape, hb7.output, hb7.size, hb7.block⟩⟩
end Go.Proofs.YtjfkgdfmkofbmaaGreatDoor
