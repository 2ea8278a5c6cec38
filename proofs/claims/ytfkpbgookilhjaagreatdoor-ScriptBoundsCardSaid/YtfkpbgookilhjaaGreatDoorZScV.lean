/- A job without files: the graph of it is the fault that its main image is missing. -/
import Derived.Test.YtfkpbgookilhjaaGreatDoorZScU
import Derived.Test.YtfkpbgookilhjaaGreatDoorZAsF
namespace Go.Proofs.YtfkpbgookilhjaaGreatDoor
set_option linter.unusedSimpArgs false
set_option linter.unusedVariables false
open Go.RowKit

theorem look_no (w : World) (b c : Nat) (s : List UInt8) (h : w.heap[b]? = some (.map #[] c)) :
    (Instr.lookup 218 (.map (some b)) (.string (mkS s)) true).run Tryz.prog w = .ok (.tuple #[.int .i64 0, .bool false]) w := by
  have hc : ∀ e, (Instr.checkKey e 10000 9 (.string (mkS s))).run Tryz.prog w = .ok () w := fun e => MapKept.run_checkKey (d := .string) (k := .string (mkS s)) Tryz.underlying9 (by simp [MapKept.IsKey]) e 9999
  have hf : (Instr.findKey 9 (.string (mkS s)) []).run Tryz.prog w = .ok none w := MapKept.run_findKey (d := .string) (k := .string (mkS s)) (l := []) (a := none) Tryz.underlying9 rfl
  have hz : (zeroValue 3).run Tryz.prog w = .ok (.int .i64 0) w := by kernel_rfl
  simp [Instr.lookup, run_underlying Tryz.underlying218, MapKept.run_getObj_map h, hc, hf, hz]
theorem look_noB (w : World) (b c : Nat) (s : List UInt8) (h : w.heap[b]? = some (.map #[] c)) :
    (Instr.lookup 217 (.map (some b)) (.string (mkS s)) true).run Tryz.prog w = .ok (.tuple #[.slice none 0 0, .bool false]) w := by
  have hc : ∀ e, (Instr.checkKey e 10000 9 (.string (mkS s))).run Tryz.prog w = .ok () w := fun e => MapKept.run_checkKey (d := .string) (k := .string (mkS s)) Tryz.underlying9 (by simp [MapKept.IsKey]) e 9999
  have hf : (Instr.findKey 9 (.string (mkS s)) []).run Tryz.prog w = .ok none w := MapKept.run_findKey (d := .string) (k := .string (mkS s)) (l := []) (a := none) Tryz.underlying9 rfl
  have hz : (zeroValue 30).run Tryz.prog w = .ok (.slice none 0 0) w := by kernel_rfl
  simp [Instr.lookup, run_underlying Tryz.underlying217, MapKept.run_getObj_map h, hc, hf, hz]
/-- A fault behind a pointer. -/
def FaultAt (W : World) (v : Value) (ph : Int) (nm : List UInt8) (er : Int) : Prop := ∃ b, v = .iface 147 (.pointer (some ⟨b, 0, none⟩)) ∧ W.heap[b]? = some (.cells #[.int .i64 ph, .string (mkS nm), .int .i64 er] 45 (0, 0))
theorem FaultAt.below {W W' : World} {v : Value} {ph : Int} {nm : List UInt8} {er : Int} (h : FaultAt W v ph nm er) (hb : Below W.heap.size W W') : FaultAt W' v ph nm er := by
  obtain ⟨b, rfl, h⟩ := h
  exact ⟨b, rfl, (hb.block b (Array.getElem?_eq_some_iff.1 h).1).trans h⟩

set_option maxHeartbeats 400000 in
theorem gr_fault (w : World) (nm : List UInt8) (er : Int) : Calls Tryz.prog 194 #[.string (mkS nm), .int .i64 er] w fun e w' => ∃ v, e = .returned v ∧ FaultAt w' v 1 nm er ∧ Below w.heap.size w w' := by
  go_enter Tryz.func194, Tryz.ntmps194
  go_wp2_with fail
  go_ret
  exact ⟨_, rfl, ⟨_, rfl, heap_alloc_new w _⟩, (Below.refl _ _).alloc (Nat.le_refl _) _⟩

/-- A loader that has nothing. -/
structure EmptyL (W : World) (L : Nat) (arch : Int) : Prop where
  at_ : ∃ a b ca cb, W.heap[L]? = some (.cells #[.int .i64 arch, .map (some a), .map (some b), .slice none 0 0, .slice none 0 0] 220 (0, 0)) ∧ W.heap[a]? = some (.map #[] ca) ∧ W.heap[b]? = some (.map #[] cb)
theorem EmptyL.below {W W' : World} {L : Nat} {arch : Int} (h : EmptyL W L arch) (hb : Below W.heap.size W W') : EmptyL W' L arch := by
  obtain ⟨a, b, ca, cb, h1, h2, h3⟩ := h.at_
  exact ⟨a, b, ca, cb, (hb.block L (Array.getElem?_eq_some_iff.1 h1).1).trans h1, (hb.block a (Array.getElem?_eq_some_iff.1 h2).1).trans h2, (hb.block b (Array.getElem?_eq_some_iff.1 h3).1).trans h3⟩

theorem empty_start (w : World) (o : Obj) (arch : Int) :
    EmptyL ((((w.alloc o).alloc (.map #[] 0)).alloc (.map #[] 0)).alloc (.cells #[.int .i64 arch, .map (some (w.heap.size + 1)), .map (some (w.heap.size + 1 + 1)), .slice none 0 0, .slice none 0 0] 220)) (w.heap.size + 1 + 1 + 1) arch ∧
    Below w.heap.size w ((((w.alloc o).alloc (.map #[] 0)).alloc (.map #[] 0)).alloc (.cells #[.int .i64 arch, .map (some (w.heap.size + 1)), .map (some (w.heap.size + 1 + 1)), .slice none 0 0, .slice none 0 0] 220)) := by
  have e1 : (w.alloc o).heap.size = w.heap.size + 1 := by simp
  have b1 : Below w.heap.size w (w.alloc o) := (Below.refl _ _).alloc (Nat.le_refl _) _
  generalize w.alloc o = w1 at e1 b1 ⊢
  have e2 : (w1.alloc (.map #[] 0)).heap.size = w.heap.size + 1 + 1 := by simp [e1]
  have b2 : Below w1.heap.size w1 (w1.alloc (.map #[] 0)) := (Below.refl _ _).alloc (Nat.le_refl _) _
  have r2 := heap_alloc_new w1 (.map #[] 0)
  generalize w1.alloc (.map #[] 0) = w2 at e2 b2 r2 ⊢
  have e3 : (w2.alloc (.map #[] 0)).heap.size = w.heap.size + 1 + 1 + 1 := by simp [e2]
  have b3 : Below w2.heap.size w2 (w2.alloc (.map #[] 0)) := (Below.refl _ _).alloc (Nat.le_refl _) _
  have r3 := heap_alloc_new w2 (.map #[] 0)
  generalize w2.alloc (.map #[] 0) = w3 at e3 b3 r3 ⊢
  have b4 : Below w3.heap.size w3 (w3.alloc (.cells #[.int .i64 arch, .map (some (w.heap.size + 1)), .map (some (w.heap.size + 1 + 1)), .slice none 0 0, .slice none 0 0] 220)) := (Below.refl _ _).alloc (Nat.le_refl _) _
  have r4 := heap_alloc_new w3 (.cells #[.int .i64 arch, .map (some (w.heap.size + 1)), .map (some (w.heap.size + 1 + 1)), .slice none 0 0, .slice none 0 0] 220)
  rw [e1] at r2
  rw [e2] at r3
  rw [e3] at r4
  refine ⟨⟨_, _, 0, 0, r4, ?_, ?_⟩, b1.trans ((b2.trans ((b3.trans (b4.mono (by omega))).mono (by omega))).mono (by omega))⟩
  · exact (b4.block _ (by omega)).trans ((b3.block _ (by omega)).trans r2)
  · exact (b4.block _ (by omega)).trans r3

set_option maxHeartbeats 1000000 in
theorem gr_begin (w : World) (p ip : Option Addr) (fc ic ni : Nat) (main : List UInt8) (arch : Int) (base : Nat) (flat : Bool) (ha : arch = 1 ∨ arch = 2) :
    Calls Tryz.prog 147 #[.agg #[.slice p 0 fc, .string (mkS main), .slice ip ni ic, .int .i64 arch, .int .u64 (base : Int), .bool flat]] w fun e w' => ∃ L, e = .returned (.tuple #[.pointer (some ⟨L, 0, none⟩), .nilIface]) ∧ EmptyL w' L arch ∧ Below w.heap.size w w' := by
  have ha2 : ((arch != 1) = true ∧ (arch != 2) = false) ∨ ((arch != 1) = false ∧ (arch != 2) = true) := by
    rcases ha with rfl | rfl
    · exact .inr ⟨rfl, rfl⟩
    · exact .inl ⟨rfl, rfl⟩
  clear ha
  rcases ha2 with ⟨a1, a2⟩ | ⟨a1, a2⟩
  all_goals
    have hmm := @run_makeMap Tryz.prog
    go_enter Tryz.func147, Tryz.ntmps147
    go_wp2_with fail
    obtain ⟨h1, h2⟩ := empty_start w (.cells #[.slice p 0 fc, .string (mkS main), .slice ip ni ic, .int .i64 arch, .int .u64 (base : Int), .bool flat] 27) arch
    generalize (((w.alloc (.cells #[.slice p 0 fc, .string (mkS main), .slice ip ni ic, .int .i64 arch, .int .u64 (base : Int), .bool flat] 27)).alloc (.map #[] 0)).alloc (.map #[] 0)).alloc (.cells #[.int .i64 arch, .map (some (w.heap.size + 1)), .map (some (w.heap.size + 1 + 1)), .slice none 0 0, .slice none 0 0] 220) = W4 at h1 h2 ⊢
    have H := hid (And.intro h1 h2)
    clear h1 h2
    refine wp_loop_rounds 1 ?_
    rw [rounds_succ]
    go_wp2_with fail
    refine bodyPost_ret (v := .tuple #[.pointer (some ⟨w.heap.size + 1 + 1 + 1, 0, none⟩), .nilIface]) (by simp [results, Tryz.results147, go_sem]) rfl ?_
    exact ⟨_, rfl, H.out.1, H.out.2⟩

set_option maxHeartbeats 1000000 in
theorem gr_load_no (w : World) (L : Nat) (arch : Int) (nm : List UInt8) (k : Int) (h : EmptyL w L arch) :
    Calls Tryz.prog 148 #[.pointer (some ⟨L, 0, none⟩), .string (mkS nm), .int .i64 k] w fun e w' => ∃ v, e = .returned (.tuple #[.int .i64 (-1), v]) ∧ FaultAt w' v 1 nm 17 ∧ Below w.heap.size w w' := by
  obtain ⟨a, b, ca, cb, h1, h2, h3⟩ := h.at_
  have x1 : w.cell? ⟨L, 1, none⟩ = some (.map (some a)) := cell_of_row w L 1 _ _ _ h1
  have x2 : w.cell? ⟨L, 2, none⟩ = some (.map (some b)) := cell_of_row w L 2 _ _ _ h1
  have l1 := look_noB w a ca nm h2
  have l2 := look_no w b cb nm h3
  clear h1 h2 h3 h
  go_enter Tryz.func148, Tryz.ntmps148
  go_wp2_with fail
  refine (gr_fault _ nm 17).mono ?_
  rintro e w1 ⟨v, rfl, hf, hb⟩
  obtain ⟨fb, rfl, hfb⟩ := hf
  have H := hid (And.intro hfb hb)
  clear hfb hb
  go_wp2_with fail
  refine bodyPost_ret (v := .tuple #[.int .i64 (-1), .iface 147 (.pointer (some ⟨fb, 0, none⟩))]) (by simp [results, Tryz.results148, go_sem]) rfl ?_
  exact ⟨_, rfl, ⟨fb, rfl, H.out.1⟩, H.out.2⟩

/-- A job's value, without files. -/
def noFiles (p ip : Option Addr) (fc ic ni : Nat) (main : List UInt8) (arch : Int) (base : Nat) (flat : Bool) : Array Value := #[.slice p 0 fc, .string (mkS main), .slice ip ni ic, .int .i64 arch, .int .u64 (base : Int), .bool flat]

set_option maxHeartbeats 1000000 in
theorem gr_all_no (w : World) (p ip : Option Addr) (fc ic ni : Nat) (main : List UInt8) (arch : Int) (base : Nat) (flat : Bool) (ha : arch = 1 ∨ arch = 2) :
    Calls Tryz.prog 112 #[.agg #[.slice p 0 fc, .string (mkS main), .slice ip ni ic, .int .i64 arch, .int .u64 (base : Int), .bool flat]] w fun e w' => ∃ v, e = .returned (.tuple #[.pointer none, v]) ∧ FaultAt w' v 1 main 17 ∧ Below w.heap.size w w' := by
  have hb0 := (Below.refl w.heap.size w).alloc (Nat.le_refl _) (.cells #[.slice p 0 fc, .string (mkS main), .slice ip ni ic, .int .i64 arch, .int .u64 (base : Int), .bool flat] 27)
  have hx0 := heap_alloc_new w (.cells #[.slice p 0 fc, .string (mkS main), .slice ip ni ic, .int .i64 arch, .int .u64 (base : Int), .bool flat] 27)
  have H0 := hid (And.intro hb0 hx0)
  clear hb0 hx0
  go_enter Tryz.func112, Tryz.ntmps112
  go_wp2_with fail
  refine (gr_begin _ p ip fc ic ni main arch base flat ha).mono ?_
  rintro e w1 ⟨L, rfl, hL, hb1⟩
  have hx1 := (hb1.block w.heap.size (by simp)).trans H0.out.2
  have x1 : w1.cell? ⟨w.heap.size, 1, none⟩ = some (.string (mkS main)) := cell_of_row w1 w.heap.size 1 _ _ _ hx1
  have H1 := hid (And.intro hL (H0.out.1.trans (hb1.mono (by simp))))
  clear hL hb1 hx1
  go_wp2_with fail
  refine (gr_load_no _ L arch main 2 H1.out.1).mono ?_
  rintro e w2 ⟨v, rfl, hf, hb2⟩
  obtain ⟨fb, rfl, hfb⟩ := hf
  have H2 := hid (And.intro hfb (H1.out.2.trans (hb2.mono H1.out.2.size)))
  clear hfb hb2
  go_wp2_with fail
  refine bodyPost_ret (v := .tuple #[.pointer none, .iface 147 (.pointer (some ⟨fb, 0, none⟩))]) (by simp [results, Tryz.results112, go_sem]) rfl ?_
  exact ⟨_, rfl, ⟨fb, rfl, H2.out.1⟩, H2.out.2⟩
end Go.Proofs.YtfkpbgookilhjaaGreatDoor
