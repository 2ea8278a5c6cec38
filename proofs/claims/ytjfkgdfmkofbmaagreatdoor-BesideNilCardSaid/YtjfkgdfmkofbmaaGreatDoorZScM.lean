/- Jobs, and their bytes: plain. No program in sight. -/
import Derived.Test.YtjfkgdfmkofbmaaGreatDoorZPlain
import Derived.Test.YtjfkgdfmkofbmaaGreatDoorZScO
namespace Go.Proofs.YtjfkgdfmkofbmaaGreatDoor
set_option linter.unusedSimpArgs false
set_option linter.unusedVariables false

/-- The number n in k bytes, the lowest first. -/
def lowB (n : Nat) : Nat → List UInt8
  | 0 => []
  | k + 1 => UInt8.ofNat (n % 256) :: lowB (n / 256) k
theorem lowB_length (k : Nat) : ∀ n, (lowB n k).length = k := by
  induction k with
  | zero => intro n; rfl
  | succ k ih => intro n; simp [lowB, ih]
theorem lowB_snoc (k : Nat) : ∀ n, lowB n (k + 1) = lowB n k ++ [UInt8.ofNat (n / 256 ^ k % 256)] := by
  induction k with
  | zero => intro n; simp [lowB]
  | succ k ih =>
    intro n
    rw [lowB, ih, lowB, List.cons_append, Nat.div_div_eq_div_mul, Nat.pow_succ, Nat.mul_comm 256]
theorem leNat_lowB (k : Nat) : ∀ n, leNat (lowB n k) = n % 256 ^ k := by
  induction k with
  | zero => intro n; simp [lowB, leNat, Nat.mod_one]
  | succ k ih =>
    intro n
    rw [lowB, leNat, ih, Nat.pow_succ]
    have h1 : (UInt8.ofNat (n % 256)).toNat = n % 256 := by simp
    rw [h1, Nat.mul_comm (256 ^ k) 256, Nat.mod_mul]

/-- A name with its length; a blob with its length. -/
def nmB (s : List UInt8) : List UInt8 := lowB s.length 2 ++ s
def blB (s : List UInt8) : List UInt8 := lowB s.length 4 ++ s

/-- A file; a job. -/
structure FileM where
  name : List UInt8
  bytes : List UInt8
def FileM.enc (f : FileM) : List UInt8 := nmB f.name ++ blB f.bytes
structure JobM where
  files : List FileM
  main : List UInt8
  insert : List (List UInt8)
  arch : Int
  base : Nat
  flat : Bool

def magicB : List UInt8 := [67, 76, 86, 83]
def flatN (b : Bool) : Nat := if b then 1 else 0

/-- The bytes of a job. -/
def JobM.enc (j : JobM) : List UInt8 :=
  magicB ++ lowB (j.arch.toNat) 1 ++ lowB (flatN j.flat) 1 ++ lowB j.base 8 ++ nmB j.main ++ lowB j.insert.length 2 ++ j.insert.flatMap nmB ++ lowB j.files.length 2 ++ j.files.flatMap FileM.enc

/-- May it be written? -/
def longF (f : FileM) : Bool := decide (255 < f.name.length) || decide (1048576 < f.bytes.length)
def longS (s : List UInt8) : Bool := decide (255 < s.length)
def mayJ (j : JobM) : Bool :=
  (j.arch == 1 || j.arch == 2) && decide (j.files.length ≤ 64) && decide (j.insert.length ≤ 64) && decide (j.main.length ≤ 255) && !j.insert.any longS && !j.files.any longF

structure MayJ (j : JobM) : Prop where
  arch : j.arch = 1 ∨ j.arch = 2
  files : j.files.length ≤ 64
  insert : j.insert.length ≤ 64
  main : j.main.length ≤ 255
  names : ∀ s ∈ j.insert, s.length ≤ 255
  each : ∀ f ∈ j.files, f.name.length ≤ 255 ∧ f.bytes.length ≤ 1048576
theorem mayJ_iff (j : JobM) : mayJ j = true ↔ MayJ j := by
  unfold mayJ
  simp only [Bool.and_eq_true, Bool.or_eq_true, beq_iff_eq, decide_eq_true_eq, Bool.not_eq_true', List.any_eq_false, longS, longF]
  constructor
  · rintro ⟨⟨⟨⟨⟨h1, h2⟩, h3⟩, h4⟩, h5⟩, h6⟩
    refine ⟨h1, h2, h3, h4, fun s hs => ?_, fun f hf => ?_⟩
    · have := h5 s hs; omega
    · have := h6 f hf; omega
  · rintro ⟨h1, h2, h3, h4, h5, h6⟩
    refine ⟨⟨⟨⟨⟨h1, h2⟩, h3⟩, h4⟩, fun s hs => ?_⟩, fun f hf => ?_⟩
    · have := h5 s hs; omega
    · have := h6 f hf; omega

theorem nmB_length (s : List UInt8) : (nmB s).length = 2 + s.length := by simp [nmB, lowB_length]
theorem blB_length (s : List UInt8) : (blB s).length = 4 + s.length := by simp [blB, lowB_length]
theorem enc_length (f : FileM) : f.enc.length = 6 + f.name.length + f.bytes.length := by
  unfold FileM.enc
  rw [List.length_append, nmB_length, blB_length]; omega

/-- How many bytes the names and the files of a job have. -/
def muchJ (j : JobM) : Nat := j.main.length + (j.files.map (fun f => f.name.length + f.bytes.length)).sum + (j.insert.map List.length).sum
end Go.Proofs.YtjfkgdfmkofbmaaGreatDoor

namespace Go.Proofs.YtjfkgdfmkofbmaaGreatDoor
set_option linter.unusedSimpArgs false
set_option linter.unusedVariables false
open Go.RowKit

/-- The cells of a string. -/
def strC (s : List UInt8) : List Value := [.string (mkS s)]

/-- A file: its name, its slice, what that reads as. -/
structure FileV where
  name : List UInt8
  p : Option Addr
  n : Nat
  cap : Nat
  bytes : List UInt8
deriving Inhabited
def FileV.cells (f : FileV) : List Value := [.string (mkS f.name), .slice f.p f.n f.cap]
def FileV.m (f : FileV) : FileM := ⟨f.name, f.bytes⟩
theorem filesLen (f : FileV) : f.cells.length = 2 := rfl

theorem BigBS.len {w : World} {p : Option Addr} {n cap : Nat} {l : List UInt8} (h : BigBS w p n cap l) : l.length = n := h.1
theorem BigBS.below {w w' : World} {p : Option Addr} {n cap : Nat} {l : List UInt8} (h : BigBS w p n cap l) (hb : Below w.heap.size w w') : BigBS w' p n cap l := ⟨h.1, fun hn => (h.2 hn).below hb⟩

/-- Strings; files. -/
abbrev StrsAt (w : World) (v : Value) (l : List (List UInt8)) : Prop := RowsAt strC 1 w v l
abbrev FilesAt (w : World) (v : Value) (l : List FileV) : Prop := RowsAt FileV.cells 2 w v l

theorem StrsAt.cell {w : World} {a : Option Addr} {n cap : Nat} {l : List (List UInt8)} (h : StrsAt w (.slice a n cap) l) {i : Nat} {x : List UInt8} (hx : l[i]? = some x) :
    ∃ g off, a = some ⟨g, off, none⟩ ∧ w.cell? ⟨g, off + i, none⟩ = some (.string (mkS x)) := by
  obtain ⟨g, off, rfl, hc⟩ := RowsAt.at h hx
  exact ⟨g, off, rfl, by have := hc 0 _ rfl; rwa [Nat.mul_one, Nat.add_zero] at this⟩
theorem FilesAt.cell {w : World} {a : Option Addr} {n cap : Nat} {l : List FileV} (h : FilesAt w (.slice a n cap) l) {i : Nat} {x : FileV} (hx : l[i]? = some x) :
    ∃ g off, a = some ⟨g, off, none⟩ ∧ w.cell? ⟨g, off + i * 2, none⟩ = some (.string (mkS x.name)) ∧ w.cell? ⟨g, off + i * 2 + 1, none⟩ = some (.slice x.p x.n x.cap) := by
  obtain ⟨g, off, rfl, hc⟩ := RowsAt.at h hx
  exact ⟨g, off, rfl, hc 0 _ rfl, hc 1 _ rfl⟩

/-- A job's value: the slices' headers, what they read as, the rest. -/
structure JobV where
  fp : Option Addr
  fc : Nat
  fs : List FileV
  main : List UInt8
  ip : Option Addr
  ic : Nat
  ins : List (List UInt8)
  arch : Int
  base : Nat
  flat : Bool
def JobV.cells (j : JobV) : Array Value := #[.slice j.fp j.fs.length j.fc, .string (mkS j.main), .slice j.ip j.ins.length j.ic, .int .i64 j.arch, .int .u64 (j.base : Int), .bool j.flat]
def JobV.m (j : JobV) : JobM := ⟨j.fs.map FileV.m, j.main, j.ins, j.arch, j.base, j.flat⟩
/-- It reads so in w. -/
structure JobAt (w : World) (j : JobV) : Prop where
  files : FilesAt w (.slice j.fp j.fs.length j.fc) j.fs
  each : ∀ f ∈ j.fs, BigBS w f.p f.n f.cap f.bytes
  ins : StrsAt w (.slice j.ip j.ins.length j.ic) j.ins
  base : j.base < 2 ^ 64
theorem JobAt.below {w w' : World} {j : JobV} (h : JobAt w j) (hb : Below w.heap.size w w') : JobAt w' j :=
  ⟨RowsAt.below h.files hb, fun f hf => (h.each f hf).below hb, RowsAt.below h.ins hb, h.base⟩

/-- The tests that a job is put to, one by one. -/
def longV (f : FileV) : Bool := decide (255 < f.name.length) || decide (1048576 < f.n)
theorem longV_m {w : World} {f : FileV} (h : BigBS w f.p f.n f.cap f.bytes) : longV f = longF f.m := by
  unfold longV longF FileV.m
  rw [h.1]
theorem any_longV {w : World} {l : List FileV} (h : ∀ f ∈ l, BigBS w f.p f.n f.cap f.bytes) : l.any longV = (l.map FileV.m).any longF := by
  induction l with
  | nil => rfl
  | cons f l ih => rw [List.any_cons, List.map_cons, List.any_cons, longV_m (h f (by simp)), ih fun x hx => h x (by simp [hx])]
/-- A job lies in the block b. -/
def JobBox (W : World) (b : Nat) (j : JobV) : Prop := W.heap[b]? = some (.cells j.cells 53 (0, 0))
theorem JobBox.new (w : World) (j : JobV) : JobBox (w.alloc (.cells j.cells 53)) w.heap.size j := heap_alloc_new w _
theorem JobBox.lt {W : World} {b : Nat} {j : JobV} (h : JobBox W b j) : b < W.heap.size := (Array.getElem?_eq_some_iff.1 h).1
theorem JobBox.below {W W' : World} {b : Nat} {j : JobV} (h : JobBox W b j) (hb : Below W.heap.size W W') : JobBox W' b j := (hb.block b h.lt).trans h
theorem JobBox.at {W : World} {b : Nat} {j : JobV} (h : JobBox W b j) :
    W.cell? ⟨b, 0, none⟩ = some (.slice j.fp j.fs.length j.fc) ∧ W.cell? ⟨b, 1, none⟩ = some (.string (mkS j.main)) ∧ W.cell? ⟨b, 2, none⟩ = some (.slice j.ip j.ins.length j.ic) ∧ W.cell? ⟨b, 3, none⟩ = some (.int .i64 j.arch) ∧ W.cell? ⟨b, 4, none⟩ = some (.int .u64 (j.base : Int)) ∧ W.cell? ⟨b, 5, none⟩ = some (.bool j.flat) :=
  ⟨cell_of_row W b 0 _ _ _ h, cell_of_row W b 1 _ _ _ h, cell_of_row W b 2 _ _ _ h, cell_of_row W b 3 _ _ _ h, cell_of_row W b 4 _ _ _ h, cell_of_row W b 5 _ _ _ h⟩
end Go.Proofs.YtjfkgdfmkofbmaaGreatDoor
