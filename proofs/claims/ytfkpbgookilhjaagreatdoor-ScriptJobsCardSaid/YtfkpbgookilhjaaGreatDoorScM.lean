/- Jobs, and their bytes: plain. No program in sight. -/
import Derived.Test.YtfkpbgookilhjaaGreatDoorPlain
namespace Go.Proofs.YtfkpbgookilhjaaGreatDoor
set_option linter.unusedSimpArgs false
set_option linter.unusedVariables false

/-- The number n in k bytes, the lowest first. -/
def lowB (n : Nat) : Nat → List UInt8
  | 0 => []
  | k + 1 => UInt8.ofNat (n % 256) :: lowB (n / 256) k
theorem lowB_length (k : Nat) : ∀ n, (lowB n k).length = k := by
  induction k with
  | zero => intro n; rfl
  | succ k ih => intro n; simp [lowB, ih]
theorem lowB_snoc (k : Nat) : ∀ n, lowB n (k + 1) = lowB n k ++ [UInt8.ofNat (n / 256 ^ k % 256)] := by
  induction k with
  | zero => intro n; simp [lowB]
  | succ k ih =>
    intro n
    rw [lowB, ih, lowB, List.cons_append, Nat.div_div_eq_div_mul, Nat.pow_succ, Nat.mul_comm 256]
theorem leNat_lowB (k : Nat) : ∀ n, leNat (lowB n k) = n % 256 ^ k := by
  induction k with
  | zero => intro n; simp [lowB, leNat, Nat.mod_one]
  | succ k ih =>
    intro n
    rw [lowB, leNat, ih, Nat.pow_succ]
    have h1 : (UInt8.ofNat (n % 256)).toNat = n % 256 := by simp
    rw [h1, Nat.mul_comm (256 ^ k) 256, Nat.mod_mul]

/-- A name with its length; a blob with its length. -/
def nmB (s : List UInt8) : List UInt8 := lowB s.length 2 ++ s
def blB (s : List UInt8) : List UInt8 := lowB s.length 4 ++ s

/-- A file; a job. -/
structure FileM where
  name : List UInt8
  bytes : List UInt8
def FileM.enc (f : FileM) : List UInt8 := nmB f.name ++ blB f.bytes
structure JobM where
  files : List FileM
  main : List UInt8
  insert : List (List UInt8)
  arch : Int
  base : Nat
  flat : Bool

def magicB : List UInt8 := [67, 76, 86, 83]
def flatN (b : Bool) : Nat := if b then 1 else 0

/-- The bytes of a job. -/
def JobM.enc (j : JobM) : List UInt8 :=
  magicB ++ lowB (j.arch.toNat) 1 ++ lowB (flatN j.flat) 1 ++ lowB j.base 8 ++ nmB j.main ++ lowB j.insert.length 2 ++ j.insert.flatMap nmB ++ lowB j.files.length 2 ++ j.files.flatMap FileM.enc

/-- May it be written? -/
def longF (f : FileM) : Bool := decide (255 < f.name.length) || decide (1048576 < f.bytes.length)
def longS (s : List UInt8) : Bool := decide (255 < s.length)
def mayJ (j : JobM) : Bool :=
  (j.arch == 1 || j.arch == 2) && decide (j.files.length ≤ 64) && decide (j.insert.length ≤ 64) && decide (j.main.length ≤ 255) && !j.insert.any longS && !j.files.any longF

structure MayJ (j : JobM) : Prop where
  arch : j.arch = 1 ∨ j.arch = 2
  files : j.files.length ≤ 64
  insert : j.insert.length ≤ 64
  main : j.main.length ≤ 255
  names : ∀ s ∈ j.insert, s.length ≤ 255
  each : ∀ f ∈ j.files, f.name.length ≤ 255 ∧ f.bytes.length ≤ 1048576
theorem mayJ_iff (j : JobM) : mayJ j = true ↔ MayJ j := by
  unfold mayJ
  simp only [Bool.and_eq_true, Bool.or_eq_true, beq_iff_eq, decide_eq_true_eq, Bool.not_eq_true', List.any_eq_false, longS, longF]
  constructor
  · rintro ⟨⟨⟨⟨⟨h1, h2⟩, h3⟩, h4⟩, h5⟩, h6⟩
    refine ⟨h1, h2, h3, h4, fun s hs => ?_, fun f hf => ?_⟩
    · have := h5 s hs; omega
    · have := h6 f hf; omega
  · rintro ⟨h1, h2, h3, h4, h5, h6⟩
    refine ⟨⟨⟨⟨⟨h1, h2⟩, h3⟩, h4⟩, fun s hs => ?_⟩, fun f hf => ?_⟩
    · have := h5 s hs; omega
    · have := h6 f hf; omega

theorem nmB_length (s : List UInt8) : (nmB s).length = 2 + s.length := by simp [nmB, lowB_length]
theorem blB_length (s : List UInt8) : (blB s).length = 4 + s.length := by simp [blB, lowB_length]
theorem enc_length (f : FileM) : f.enc.length = 6 + f.name.length + f.bytes.length := by
  unfold FileM.enc
  rw [List.length_append, nmB_length, blB_length]; omega

/-- How many bytes the names and the files of a job have. -/
def muchJ (j : JobM) : Nat := j.main.length + (j.files.map (fun f => f.name.length + f.bytes.length)).sum + (j.insert.map List.length).sum
end Go.Proofs.YtfkpbgookilhjaaGreatDoor
