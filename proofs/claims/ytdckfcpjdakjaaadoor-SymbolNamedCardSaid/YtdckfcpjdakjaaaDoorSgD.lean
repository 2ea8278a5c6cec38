/- The walks of symbol.Of, symbol.Line, and of SymbolNamed's known. -/
import Derived.Test.YtdckfcpjdakjaaaDoorSgC
namespace Go.Proofs.YtdckfcpjdakjaaaDoor
set_option linter.unusedSimpArgs false
set_option linter.unusedVariables false
open Go.RowKit
attribute [local go_sem ↓] old_img old_loaded
attribute [local go_sem] big_img big_loaded

/-- The cells that Of's second closure reads. -/
structure Caps (w : World) (A B7 B8 B9 B10 a : Nat) (found : Bool) (nm : ByteArray) (off : Nat) : Prop where
  cA : w.heap[A]? = some (.cells #[.int .u64 (a : Int)] 26 (0, 0))
  c7 : w.heap[B7]? = some (.cells #[.int .i64 0] 3 (0, 0))
  c8 : w.heap[B8]? = some (.cells #[.int .u64 16384] 26 (0, 0))
  c9 : w.heap[B9]? = some (.cells #[.bool true, .int .i64 0, .string nm, .int .u64 (off : Int)] 44 (0, 0))
  c10 : w.heap[B10]? = some (.cells #[.bool found] 4 (0, 0))

theorem heap_below {w w' : World} {k : Nat} {o : Obj} (h : w.heap[k]? = some o) (hb : Below w.heap.size w w') : w'.heap[k]? = some o := (hb.block k (Array.getElem?_eq_some_iff.1 h).1).trans h

theorem Caps.below {w w' : World} {A B7 B8 B9 B10 a : Nat} {found : Bool} {nm : ByteArray} {off : Nat} (h : Caps w A B7 B8 B9 B10 a found nm off) (hb : Below w.heap.size w w') : Caps w' A B7 B8 B9 B10 a found nm off :=
  ⟨heap_below h.cA hb, heap_below h.c7 hb, heap_below h.c8 hb, heap_below h.c9 hb, heap_below h.c10 hb⟩

theorem Caps.cells {w : World} {A B7 B8 B9 B10 a : Nat} {found : Bool} {nm : ByteArray} {off : Nat} (h : Caps w A B7 B8 B9 B10 a found nm off) :
    w.cell? ⟨A, 0, none⟩ = some (.int .u64 (a : Int)) ∧ w.cell? ⟨B7, 0, none⟩ = some (.int .i64 0) ∧ w.cell? ⟨B8, 0, none⟩ = some (.int .u64 16384) ∧ w.cell? ⟨B10, 0, none⟩ = some (.bool found) ∧ w.cell? ⟨B9, 3, none⟩ = some (.int .u64 (off : Int)) ∧ w.cell? ⟨B9, 2, none⟩ = some (.string nm) :=
  ⟨cell_of_row _ _ 0 _ _ _ h.cA, cell_of_row _ _ 0 _ _ _ h.c7, cell_of_row _ _ 0 _ _ _ h.c8, cell_of_row _ _ 0 _ _ _ h.c10, cell_of_row _ _ 3 _ _ _ h.c9, cell_of_row _ _ 2 _ _ _ h.c9⟩

set_option maxHeartbeats 1000000 in
theorem sg_of2_no (w : World) (A B7 B8 B9 B10 a : Nat) (nm0 : ByteArray) (off : Nat) (hc : Caps w A B7 B8 B9 B10 a false nm0 off) (nm : ByteArray) (at_ d e : Nat) (hd : IntKind.u64.wrap ((a : Int) - 16384) = (d : Int)) (he : IntKind.u64.wrap ((at_ : Int) - 16384) = (e : Int)) (hlt : d < e) :
    Calls Tryd.prog 16 #[.agg #[.string nm, .int .i64 0, .int .u64 at_, .bool false], .pointer (some ⟨B7, 0, none⟩), .pointer (some ⟨B8, 0, none⟩), .pointer (some ⟨A, 0, none⟩), .pointer (some ⟨B10, 0, none⟩), .pointer (some ⟨B9, 0, none⟩)] w fun e w' => e = .returned (.bool false) ∧ Below w.heap.size w w' := by
  obtain ⟨x1, x2, x3, x4, x5, x6⟩ := (hc.below ((Below.refl _ _).alloc (Nat.le_refl _) (.cells #[.string nm, .int .i64 0, .int .u64 at_, .bool false] 28))).cells
  clear hc
  go_enter Tryd.func16, Tryd.ntmps16
  go_wp2
  go_ret
  exact ⟨rfl, (Below.refl _ _).alloc (Nat.le_refl _) _⟩

set_option maxHeartbeats 1000000 in
theorem sg_of2_yes (w : World) (A B7 B8 B9 B10 a : Nat) (nm0 : ByteArray) (off : Nat) (hc : Caps w A B7 B8 B9 B10 a false nm0 off) (nm : ByteArray) (at_ d e f : Nat) (hd : IntKind.u64.wrap ((a : Int) - 16384) = (d : Int)) (he : IntKind.u64.wrap ((at_ : Int) - 16384) = (e : Int)) (hf : IntKind.u64.wrap ((a : Int) - at_) = (f : Int)) (hlt : ¬ d < e) :
    Calls Tryd.prog 16 #[.agg #[.string nm, .int .i64 0, .int .u64 at_, .bool false], .pointer (some ⟨B7, 0, none⟩), .pointer (some ⟨B8, 0, none⟩), .pointer (some ⟨A, 0, none⟩), .pointer (some ⟨B10, 0, none⟩), .pointer (some ⟨B9, 0, none⟩)] w fun e w' => e = .returned (.bool true) ∧ Below w.heap.size w w' := by
  obtain ⟨x1, x2, x3, x4, x5, x6⟩ := (hc.below ((Below.refl _ _).alloc (Nat.le_refl _) (.cells #[.string nm, .int .i64 0, .int .u64 at_, .bool false] 28))).cells
  clear hc
  go_enter Tryd.func16, Tryd.ntmps16
  go_wp2
  go_ret
  exact ⟨rfl, (Below.refl _ _).alloc (Nat.le_refl _) _⟩

end Go.Proofs.YtdckfcpjdakjaaaDoor
