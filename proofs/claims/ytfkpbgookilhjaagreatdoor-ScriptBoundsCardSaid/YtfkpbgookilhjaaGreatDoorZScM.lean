/- Jobs, and their bytes: plain. No program in sight. -/
import Derived.Test.YtfkpbgookilhjaaGreatDoorZPlain
namespace Go.Proofs.YtfkpbgookilhjaaGreatDoor
set_option linter.unusedSimpArgs false
set_option linter.unusedVariables false

/-- The number n in k bytes, the lowest first. -/
def lowB (n : Nat) : Nat → List UInt8
  | 0 => []
  | k + 1 => UInt8.ofNat (n % 256) :: lowB (n / 256) k
theorem lowB_length (k : Nat) : ∀ n, (lowB n k).length = k := by
  induction k with
  | zero => intro n; rfl
  | succ k ih => intro n; simp [lowB, ih]
theorem lowB_snoc (k : Nat) : ∀ n, lowB n (k + 1) = lowB n k ++ [UInt8.ofNat (n / 256 ^ k % 256)] := by
  induction k with
  | zero => intro n; simp [lowB]
  | succ k ih =>
    intro n
    rw [lowB, ih, lowB, List.cons_append, Nat.div_div_eq_div_mul, Nat.pow_succ, Nat.mul_comm 256]
theorem leNat_lowB (k : Nat) : ∀ n, leNat (lowB n k) = n % 256 ^ k := by
  induction k with
  | zero => intro n; simp [lowB, leNat, Nat.mod_one]
  | succ k ih =>
    intro n
    rw [lowB, leNat, ih, Nat.pow_succ]
    have h1 : (UInt8.ofNat (n % 256)).toNat = n % 256 := by simp
    rw [h1, Nat.mul_comm (256 ^ k) 256, Nat.mod_mul]

/-- A name with its length; a blob with its length. -/
def nmB (s : List UInt8) : List UInt8 := lowB s.length 2 ++ s
def blB (s : List UInt8) : List UInt8 := lowB s.length 4 ++ s

/-- A file; a job. -/
structure FileM where
  name : List UInt8
  bytes : List UInt8
def FileM.enc (f : FileM) : List UInt8 := nmB f.name ++ blB f.bytes
structure JobM where
  files : List FileM
  main : List UInt8
  insert : List (List UInt8)
  arch : Int
  base : Nat
  flat : Bool

def magicB : List UInt8 := [67, 76, 86, 83]
def flatN (b : Bool) : Nat := if b then 1 else 0

/-- The bytes of a job. -/
def JobM.enc (j : JobM) : List UInt8 :=
  magicB ++ lowB (j.arch.toNat) 1 ++ lowB (flatN j.flat) 1 ++ lowB j.base 8 ++ nmB j.main ++ lowB j.insert.length 2 ++ j.insert.flatMap nmB ++ lowB j.files.length 2 ++ j.files.flatMap FileM.enc

/-- May it be written? -/
def longF (f : FileM) : Bool := decide (255 < f.name.length) || decide (1048576 < f.bytes.length)
def longS (s : List UInt8) : Bool := decide (255 < s.length)
def mayJ (j : JobM) : Bool :=
  (j.arch == 1 || j.arch == 2) && decide (j.files.length ≤ 64) && decide (j.insert.length ≤ 64) && decide (j.main.length ≤ 255) && !j.insert.any longS && !j.files.any longF

structure MayJ (j : JobM) : Prop where
  arch : j.arch = 1 ∨ j.arch = 2
  files : j.files.length ≤ 64
  insert : j.insert.length ≤ 64
  main : j.main.length ≤ 255
  names : ∀ s ∈ j.insert, s.length ≤ 255
  each : ∀ f ∈ j.files, f.name.length ≤ 255 ∧ f.bytes.length ≤ 1048576
theorem mayJ_iff (j : JobM) : mayJ j = true ↔ MayJ j := by
  unfold mayJ
  simp only [Bool.and_eq_true, Bool.or_eq_true, beq_iff_eq, decide_eq_true_eq, Bool.not_eq_true', List.any_eq_false, longS, longF]
  constructor
  · rintro ⟨⟨⟨⟨⟨h1, h2⟩, h3⟩, h4⟩, h5⟩, h6⟩
    refine ⟨h1, h2, h3, h4, fun s hs => ?_, fun f hf => ?_⟩
    · have := h5 s hs; omega
    · have := h6 f hf; omega
  · rintro ⟨h1, h2, h3, h4, h5, h6⟩
    refine ⟨⟨⟨⟨⟨h1, h2⟩, h3⟩, h4⟩, fun s hs => ?_⟩, fun f hf => ?_⟩
    · have := h5 s hs; omega
    · have := h6 f hf; omega

theorem nmB_length (s : List UInt8) : (nmB s).length = 2 + s.length := by simp [nmB, lowB_length]
theorem blB_length (s : List UInt8) : (blB s).length = 4 + s.length := by simp [blB, lowB_length]
theorem enc_length (f : FileM) : f.enc.length = 6 + f.name.length + f.bytes.length := by
  unfold FileM.enc
  rw [List.length_append, nmB_length, blB_length]; omega

/-- How many bytes the names and the files of a job have. -/
def muchJ (j : JobM) : Nat := j.main.length + (j.files.map (fun f => f.name.length + f.bytes.length)).sum + (j.insert.map List.length).sum
end Go.Proofs.YtfkpbgookilhjaaGreatDoor

namespace Go.Proofs.YtfkpbgookilhjaaGreatDoor
set_option linter.unusedSimpArgs false
set_option linter.unusedVariables false

structure SeatM where
  path : List UInt8
  slide : Nat
  deps : List Int
structure PieceM where
  at_ : Nat
  prot : Int
  bytes : List UInt8
structure InitM where
  image : Int
  at_ : Nat
structure ToldM where
  phase : Int
  img : List UInt8
  err : Int
  seats : List SeatM
  mem : List PieceM
  inits : List InitM
  entry : Nat

/-- A number in 16 bits, as it is laid. -/
def two (d : Int) : Nat := (d % 65536).toNat
def SeatM.enc (s : SeatM) : List UInt8 := nmB s.path ++ lowB s.slide 8 ++ lowB s.deps.length 2 ++ s.deps.flatMap (fun d => lowB (two d) 2)
def PieceM.enc (p : PieceM) : List UInt8 := lowB p.at_ 8 ++ lowB p.prot.toNat 1 ++ blB p.bytes
def InitM.enc (x : InitM) : List UInt8 := lowB x.image.toNat 2 ++ lowB x.at_ 8
def faultB (ph er : Int) : List UInt8 := [70, UInt8.ofNat (ph % 256).toNat, UInt8.ofNat (er % 256).toNat]
def ToldM.enc (t : ToldM) : List UInt8 :=
  if t.err = 0 then
    [76] ++ lowB t.seats.length 2 ++ t.seats.flatMap SeatM.enc ++ lowB t.mem.length 4 ++ t.mem.flatMap PieceM.enc ++ lowB t.inits.length 4 ++ t.inits.flatMap InitM.enc ++ lowB t.entry 8
  else faultB t.phase t.err ++ nmB t.img

/-- May it be told? -/
def inB2 (n least most : Int) : Bool := decide (least ≤ n) && decide (n ≤ most)
def badD (d : Int) : Bool := !inB2 d (-1) 65534
def badS (s : SeatM) : Bool := decide (65535 < s.path.length) || decide (65535 < s.deps.length) || s.deps.any badD
def badP (p : PieceM) : Bool := !inB2 p.prot 0 255 || decide (67108864 < p.bytes.length)
def badI (x : InitM) : Bool := !inB2 x.image 0 65535
def sizS (s : SeatM) : Nat := 12 + s.path.length + 2 * s.deps.length
def sizP (p : PieceM) : Nat := 13 + p.bytes.length
def allT (t : ToldM) : Nat := 19 + 10 * t.inits.length + (t.seats.map sizS).sum + (t.mem.map sizP).sum
def mayFault (t : ToldM) : Bool := decide (t.seats.length + t.mem.length + t.inits.length = 0) && decide (t.entry = 0) && inB2 t.phase 0 255 && inB2 t.err 1 255 && decide (t.img.length ≤ 65535)
def mayLinked (t : ToldM) : Bool := decide (t.phase = 0) && t.img.isEmpty && decide (t.seats.length ≤ 65535) && decide (t.mem.length ≤ 65535) && decide (t.inits.length ≤ 1000000) && !t.seats.any badS && !t.mem.any badP && decide (allT t ≤ 67108864) && !t.inits.any badI
def mayT (t : ToldM) : Bool := if t.err = 0 then mayLinked t else mayFault t
end Go.Proofs.YtfkpbgookilhjaaGreatDoor
