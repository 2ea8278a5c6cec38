/- Plain laws on numbers and lists of bytes. No program in sight. -/
import Derived.WalkKit
import Derived.Lib.IndexLaws
namespace Go.Proofs.YtjfkgdfmkofbmaaGreatDoor
set_option linter.unusedSimpArgs false
set_option linter.unusedVariables false

/-- The number of bytes, the lowest first. -/
def leNat : List UInt8 → Nat
  | [] => 0
  | x :: r => x.toNat + 256 * leNat r

theorem leNat_lt (l : List UInt8) : leNat l < 256 ^ l.length := by
  induction l with
  | nil => simp [leNat]
  | cons x r ih =>
    have := x.toNat_lt
    simp only [leNat, List.length_cons, Nat.pow_succ]
    omega

theorem leNat_snoc (l : List UInt8) (x : UInt8) : leNat (l ++ [x]) = leNat l + x.toNat * 256 ^ l.length := by
  induction l with
  | nil => simp [leNat]
  | cons y r ih =>
    simp only [List.cons_append, leNat, ih, List.length_cons, Nat.pow_succ, Nat.mul_add]
    have e : 256 * (x.toNat * 256 ^ r.length) = x.toNat * (256 ^ r.length * 256) := by rw [Nat.mul_comm (256 ^ r.length) 256, Nat.mul_left_comm]
    omega

theorem take_snoc {α : Type} {l : List α} {j : Nat} {x : α} (h : l[j]? = some x) : l.take (j + 1) = l.take j ++ [x] := by
  rw [List.take_add_one, h]; rfl

theorem or_add (A B k : Nat) (hA : A < 2 ^ k) : A ||| (B * 2 ^ k) = A + B * 2 ^ k := by
  rw [Nat.or_comm, Nat.mul_comm, ← Nat.two_pow_add_eq_or_of_lt hA, Nat.add_comm]

theorem ofInt_nat (n a : Nat) : BitVec.ofInt n (a : Int) = BitVec.ofNat n a := by
  apply BitVec.eq_of_toNat_eq
  simp [BitVec.toNat_ofInt, BitVec.toNat_ofNat]

theorem or_u64 (a b : Nat) (ha : a < 2 ^ 64) (hb : b < 2 ^ 64) : bits BinOp.or IntKind.u64 (a : Int) (b : Int) = ((a ||| b : Nat) : Int) := by
  have h := Nat.or_lt_two_pow ha hb
  have e : (BitVec.ofNat 64 a ||| BitVec.ofNat 64 b).toNat = a ||| b := by rw [BitVec.toNat_or, BitVec.toNat_ofNat, BitVec.toNat_ofNat, Nat.mod_eq_of_lt ha, Nat.mod_eq_of_lt hb]
  simp only [bits, ofInt_nat]
  show IntKind.u64.wrap (((BitVec.ofNat 64 a ||| BitVec.ofNat 64 b).toNat : Nat) : Int) = _
  rw [e, IntWalk.u64_in _ (by omega)]

theorem and_u64 (a b : Nat) (ha : a < 2 ^ 64) (hb : b < 2 ^ 64) : bits BinOp.and IntKind.u64 (a : Int) (b : Int) = ((a &&& b : Nat) : Int) := by
  have h : a &&& b < 2 ^ 64 := Nat.lt_of_le_of_lt Nat.and_le_left ha
  have e : (BitVec.ofNat 64 a &&& BitVec.ofNat 64 b).toNat = a &&& b := by rw [BitVec.toNat_and, BitVec.toNat_ofNat, BitVec.toNat_ofNat, Nat.mod_eq_of_lt ha, Nat.mod_eq_of_lt hb]
  simp only [bits, ofInt_nat]
  show IntKind.u64.wrap (((BitVec.ofNat 64 a &&& BitVec.ofNat 64 b).toNat : Nat) : Int) = _
  rw [e, IntWalk.u64_in _ (by omega)]

theorem and_i64 (a b : Nat) (ha : a < 2 ^ 63) (hb : b < 2 ^ 63) : bits BinOp.and IntKind.i64 (a : Int) (b : Int) = ((a &&& b : Nat) : Int) := by
  have h : a &&& b < 2 ^ 63 := Nat.lt_of_le_of_lt Nat.and_le_left ha
  have e : (BitVec.ofNat 64 a &&& BitVec.ofNat 64 b).toNat = a &&& b := by rw [BitVec.toNat_and, BitVec.toNat_ofNat, BitVec.toNat_ofNat, Nat.mod_eq_of_lt (show a < 2 ^ 64 by omega), Nat.mod_eq_of_lt (show b < 2 ^ 64 by omega)]
  simp only [bits, ofInt_nat]
  show IntKind.i64.wrap (((BitVec.ofNat 64 a &&& BitVec.ofNat 64 b).toNat : Nat) : Int) = _
  rw [e, IntWalk.i64_in _ (by omega)]

theorem or_shl (A x j : Nat) (hj : j < 8) (hA : A < 256 ^ j) (hx : x < 256) :
    bits BinOp.or IntKind.u64 (A : Int) (IntKind.u64.wrap (IntKind.u64.wrap (x : Int) * 2 ^ (8 * j))) = ((A + x * 256 ^ j : Nat) : Int) := by
  have hp : (256 : Nat) ^ j = 2 ^ (8 * j) := by rw [Nat.pow_mul]
  rw [hp] at hA ⊢
  have hb : x * 2 ^ (8 * j) < 2 ^ 64 := by
    have h1 : x * 2 ^ (8 * j) < 2 ^ 8 * 2 ^ (8 * j) := Nat.mul_lt_mul_of_pos_right (by omega) (Nat.two_pow_pos _)
    have h2 : (2 : Nat) ^ 8 * 2 ^ (8 * j) ≤ 2 ^ 64 := by rw [← Nat.pow_add]; exact Nat.pow_le_pow_right (by omega) (by omega)
    omega
  have hA' : A < 2 ^ 64 := Nat.lt_of_lt_of_le hA (Nat.pow_le_pow_right (by omega) (by omega))
  have e1 : IntKind.u64.wrap (x : Int) = x := IntWalk.u64_in _ (by omega)
  have e2 : (x : Int) * 2 ^ (8 * j) = ((x * 2 ^ (8 * j) : Nat) : Int) := by simp
  have e3 : IntKind.u64.wrap ((x * 2 ^ (8 * j) : Nat) : Int) = ((x * 2 ^ (8 * j) : Nat) : Int) := IntWalk.u64_in _ (by omega)
  rw [e1, e2, e3]
  rw [or_u64 _ _ hA' hb, or_add A x (8 * j) hA]

/-- A symbol, its name as bytes. -/
structure Sym where
  name : List UInt8
  sect : Int
  val : Nat
  weak : Bool

def mkS (l : List UInt8) : ByteArray := ⟨l.toArray⟩
@[simp] theorem mkS_toList (l : List UInt8) : (mkS l).data.toList = l := rfl
theorem mkS_size (l : List UInt8) : (mkS l).size = l.length := by simp [mkS, ByteArray.size]
theorem mkS_inj {a b : List UInt8} (h : mkS a = mkS b) : a = b := by have := congrArg (fun s : ByteArray => s.data.toList) h; exact this
def Sym.cells (s : Sym) : List Value := [.string (mkS s.name), .int .i64 s.sect, .int .u64 s.val, .bool s.weak]
def Sym.zero : Sym := ⟨[], 0, 0, false⟩

/-- How many bytes stand ahead of the first 0. -/
def nul (l : List UInt8) : Nat := (l.takeWhile (· != 0)).length

theorem nul_le (l : List UInt8) : nul l ≤ l.length := by unfold nul; exact (List.takeWhile_prefix _).length_le

theorem nul_cons (x : UInt8) (l : List UInt8) : nul (x :: l) = if x = 0 then 0 else nul l + 1 := by
  unfold nul
  by_cases h : x = 0 <;> simp [List.takeWhile_cons, h]

theorem indexByte_nul (l : List UInt8) : Lib.indexByte l 0 = if nul l < l.length then (nul l : Int) else -1 := by
  induction l with
  | nil => simp [Lib.indexByte, nul]
  | cons x r ih =>
    unfold Lib.indexByte
    rw [nul_cons]
    by_cases h : x = 0
    · simp [h]
    · have hb : (x == 0) = false := by simpa using h
      rw [hb, if_neg (by simp), ih, if_neg h]
      have hle := nul_le r
      simp only [List.length_cons]
      by_cases hr : nul r < r.length
      · have e : (if nul r < r.length then (nul r : Int) else -1) = nul r := if_pos hr
        have e2 : ((nul r : Int) == -1) = false := by rw [beq_eq_false_iff_ne]; omega
        rw [e, e2, if_neg (by simp), if_pos (show nul r + 1 < r.length + 1 by omega)]
        simp
      · have e : (if nul r < r.length then (nul r : Int) else -1) = -1 := if_neg hr
        rw [e, if_neg (show ¬ nul r + 1 < r.length + 1 by omega)]
        simp

theorem nul_lt {l : List UInt8} {j : Nat} (h : j < nul l) : ∃ x, l[j]? = some x ∧ x ≠ 0 := by
  induction l generalizing j with
  | nil => simp [nul] at h
  | cons y r ih =>
    rw [nul_cons] at h
    split at h
    · omega
    · rename_i hy
      cases j with
      | zero => exact ⟨y, rfl, hy⟩
      | succ j => simpa using ih (by omega)

theorem nul_at {l : List UInt8} (h : nul l < l.length) : l[nul l]? = some 0 := by
  induction l with
  | nil => simp at h
  | cons y r ih =>
    rw [nul_cons] at h ⊢
    split
    · rename_i hy; simp [hy]
    · rename_i hy
      rw [if_neg hy] at h
      simpa using ih (by simpa using h)

theorem leNat_drop {l : List UInt8} {j : Nat} {x : UInt8} (h : l[j]? = some x) : leNat (l.drop j) = x.toNat + 256 * leNat (l.drop (j + 1)) := by
  obtain ⟨hj, rfl⟩ := List.getElem?_eq_some_iff.1 h
  rw [List.drop_eq_getElem_cons hj]; rfl

/-- The name that stands at a place of the strings, or an error. -/
def textM (names : List UInt8) (at_ : Nat) : List UInt8 × Nat :=
  if names.length ≤ at_ then ([], 13)
  else if (names.drop at_).length ≤ nul (names.drop at_) ∨ nul (names.drop at_) = 0 then ([], 13)
  else if 255 < nul (names.drop at_) then ([], 10)
  else ((names.drop at_).take (nul (names.drop at_)), 0)

/-- The symbol of an entry, but for its name; is it told; an error. -/
def toldM (kind : Nat) (sect : Nat) (desc : Nat) (adds : Nat) (sections : Int) : Sym × Bool × Nat :=
  if kind = 15 then
    if (sect : Int) < 1 ∨ sections < (sect : Int) then (Sym.zero, true, 13)
    else (⟨[], sect, adds, desc / 128 % 2 == 1⟩, true, 0)
  else if kind = 3 then (⟨[], 0, adds, desc / 128 % 2 == 1⟩, true, 0)
  else (Sym.zero, false, 0)

/-- What an entry tells: nothing, an error, or a symbol. -/
def entryM (e names : List UInt8) (sections : Int) : Option (Nat × Sym) :=
  let t := toldM (e[4]?.getD 0).toNat (e[5]?.getD 0).toNat (leNat ((e.drop 6).take 2)) (leNat ((e.drop 8).take 8)) sections
  if t.2.1 = false then none
  else if t.2.2 ≠ 0 then some (t.2.2, Sym.zero)
  else if (textM names (leNat (e.take 4))).2 ≠ 0 then some ((textM names (leNat (e.take 4))).2, Sym.zero)
  else some (0, { t.1 with name := (textM names (leNat (e.take 4))).1 })

/-- What a table tells, behind what was told already. -/
def allM (names : List UInt8) (sections : Int) : Nat → List UInt8 → List Sym → List Sym × Nat
  | 0, _, out => (out, 0)
  | n + 1, t, out =>
    match entryM (t.take 16) names sections with
    | none => allM names sections n (t.drop 16) out
    | some (e, s) =>
      if e ≠ 0 then ([], e)
      else if out.any (fun x => x.name == s.name) then ([], 21)
      else if out.length = 4096 then ([], 11)
      else allM names sections n (t.drop 16) (out ++ [s])

def tableM (table names : List UInt8) (sections : Int) : List Sym × Nat :=
  if table.length % 16 ≠ 0 then ([], 13) else allM names sections (table.length / 16) table []

end Go.Proofs.YtjfkgdfmkofbmaaGreatDoor
