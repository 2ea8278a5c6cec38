/- A job that came in: its value, how it reads. Plain. -/
import Derived.Test.YtfkpbgookilhjaaGreatDoorScO
import Derived.Test.YtfkpbgookilhjaaGreatDoorScM
namespace Go.Proofs.YtfkpbgookilhjaaGreatDoor
set_option linter.unusedSimpArgs false
set_option linter.unusedVariables false
open Go.RowKit

/-- The cells of a string. -/
def strC (s : List UInt8) : List Value := [.string (mkS s)]

/-- A file: its name, its slice, what that reads as. -/
structure FileV where
  name : List UInt8
  p : Option Addr
  n : Nat
  cap : Nat
  bytes : List UInt8
deriving Inhabited
def FileV.cells (f : FileV) : List Value := [.string (mkS f.name), .slice f.p f.n f.cap]
def FileV.m (f : FileV) : FileM := ⟨f.name, f.bytes⟩
theorem filesLen (f : FileV) : f.cells.length = 2 := rfl

theorem BigBS.len {w : World} {p : Option Addr} {n cap : Nat} {l : List UInt8} (h : BigBS w p n cap l) : l.length = n := h.1
theorem BigBS.below {w w' : World} {p : Option Addr} {n cap : Nat} {l : List UInt8} (h : BigBS w p n cap l) (hb : Below w.heap.size w w') : BigBS w' p n cap l := ⟨h.1, fun hn => (h.2 hn).below hb⟩

/-- Strings; files. -/
abbrev StrsAt (w : World) (v : Value) (l : List (List UInt8)) : Prop := RowsAt strC 1 w v l
abbrev FilesAt (w : World) (v : Value) (l : List FileV) : Prop := RowsAt FileV.cells 2 w v l

theorem StrsAt.cell {w : World} {a : Option Addr} {n cap : Nat} {l : List (List UInt8)} (h : StrsAt w (.slice a n cap) l) {i : Nat} {x : List UInt8} (hx : l[i]? = some x) :
    ∃ g off, a = some ⟨g, off, none⟩ ∧ w.cell? ⟨g, off + i, none⟩ = some (.string (mkS x)) := by
  obtain ⟨g, off, rfl, hc⟩ := RowsAt.at h hx
  exact ⟨g, off, rfl, by have := hc 0 _ rfl; rwa [Nat.mul_one, Nat.add_zero] at this⟩
theorem FilesAt.cell {w : World} {a : Option Addr} {n cap : Nat} {l : List FileV} (h : FilesAt w (.slice a n cap) l) {i : Nat} {x : FileV} (hx : l[i]? = some x) :
    ∃ g off, a = some ⟨g, off, none⟩ ∧ w.cell? ⟨g, off + i * 2, none⟩ = some (.string (mkS x.name)) ∧ w.cell? ⟨g, off + i * 2 + 1, none⟩ = some (.slice x.p x.n x.cap) := by
  obtain ⟨g, off, rfl, hc⟩ := RowsAt.at h hx
  exact ⟨g, off, rfl, hc 0 _ rfl, hc 1 _ rfl⟩

/-- A job's value: the slices' headers, what they read as, the rest. -/
structure JobV where
  fp : Option Addr
  fc : Nat
  fs : List FileV
  main : List UInt8
  ip : Option Addr
  ic : Nat
  ins : List (List UInt8)
  arch : Int
  base : Nat
  flat : Bool
def JobV.cells (j : JobV) : Array Value := #[.slice j.fp j.fs.length j.fc, .string (mkS j.main), .slice j.ip j.ins.length j.ic, .int .i64 j.arch, .int .u64 (j.base : Int), .bool j.flat]
def JobV.m (j : JobV) : JobM := ⟨j.fs.map FileV.m, j.main, j.ins, j.arch, j.base, j.flat⟩
/-- It reads so in w. -/
structure JobAt (w : World) (j : JobV) : Prop where
  files : FilesAt w (.slice j.fp j.fs.length j.fc) j.fs
  each : ∀ f ∈ j.fs, BigBS w f.p f.n f.cap f.bytes
  ins : StrsAt w (.slice j.ip j.ins.length j.ic) j.ins
  base : j.base < 2 ^ 64
theorem JobAt.below {w w' : World} {j : JobV} (h : JobAt w j) (hb : Below w.heap.size w w') : JobAt w' j :=
  ⟨RowsAt.below h.files hb, fun f hf => (h.each f hf).below hb, RowsAt.below h.ins hb, h.base⟩

/-- The tests that a job is put to, one by one. -/
def longV (f : FileV) : Bool := decide (255 < f.name.length) || decide (1048576 < f.n)
theorem longV_m {w : World} {f : FileV} (h : BigBS w f.p f.n f.cap f.bytes) : longV f = longF f.m := by
  unfold longV longF FileV.m
  rw [h.1]
theorem any_longV {w : World} {l : List FileV} (h : ∀ f ∈ l, BigBS w f.p f.n f.cap f.bytes) : l.any longV = (l.map FileV.m).any longF := by
  induction l with
  | nil => rfl
  | cons f l ih => rw [List.any_cons, List.map_cons, List.any_cons, longV_m (h f (by simp)), ih fun x hx => h x (by simp [hx])]
/-- A job lies in the block b. -/
def JobBox (W : World) (b : Nat) (j : JobV) : Prop := W.heap[b]? = some (.cells j.cells 27 (0, 0))
theorem JobBox.new (w : World) (j : JobV) : JobBox (w.alloc (.cells j.cells 27)) w.heap.size j := heap_alloc_new w _
theorem JobBox.lt {W : World} {b : Nat} {j : JobV} (h : JobBox W b j) : b < W.heap.size := (Array.getElem?_eq_some_iff.1 h).1
theorem JobBox.below {W W' : World} {b : Nat} {j : JobV} (h : JobBox W b j) (hb : Below W.heap.size W W') : JobBox W' b j := (hb.block b h.lt).trans h
theorem JobBox.at {W : World} {b : Nat} {j : JobV} (h : JobBox W b j) :
    W.cell? ⟨b, 0, none⟩ = some (.slice j.fp j.fs.length j.fc) ∧ W.cell? ⟨b, 1, none⟩ = some (.string (mkS j.main)) ∧ W.cell? ⟨b, 2, none⟩ = some (.slice j.ip j.ins.length j.ic) ∧ W.cell? ⟨b, 3, none⟩ = some (.int .i64 j.arch) ∧ W.cell? ⟨b, 4, none⟩ = some (.int .u64 (j.base : Int)) ∧ W.cell? ⟨b, 5, none⟩ = some (.bool j.flat) :=
  ⟨cell_of_row W b 0 _ _ _ h, cell_of_row W b 1 _ _ _ h, cell_of_row W b 2 _ _ _ h, cell_of_row W b 3 _ _ _ h, cell_of_row W b 4 _ _ _ h, cell_of_row W b 5 _ _ _ h⟩
end Go.Proofs.YtfkpbgookilhjaaGreatDoor
