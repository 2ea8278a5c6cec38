/- Plain: what the entries of the law NlistKinds tell. -/
import Derived.Test.YtdckfcpjdakjaaaKnown
import Derived.Test.YtdckfcpjdakjaaaFind
namespace Go.Proofs.Ytdckfcpjdakjaaa
open Go.RowKit Go.Maps

def knames : List UInt8 := [120, 0, 97, 98, 0]
/-- The entry as the law lays it: the name's place, its type, and 11 bytes. -/
def kent (y : UInt8) (r : List UInt8) : List UInt8 := 2 :: 0 :: 0 :: 0 :: y :: r

theorem ktext : textM knames 2 = ([97, 98], 0) := by rfl

def outM : Option (Nat × Sym) → List Sym × Nat
  | none => ([], 0)
  | some (e, s) => if e ≠ 0 then ([], e) else ([s], 0)

theorem kent_val (y : UInt8) (r : List UInt8) (hr : r.length = 11) (M : Option (Nat × Sym)) (h : entryM (kent y r) knames 255 = M) :
    tableM (kent y r) knames 255 = outM M := by
  have hl : (kent y r).length = 16 := by simp [kent, hr]
  have ht : (kent y r).take 16 = kent y r := List.take_of_length_le (by omega)
  unfold tableM
  rw [if_neg (by omega), hl]
  show allM knames 255 1 (kent y r) [] = _
  unfold allM
  rw [ht, h]
  cases M with
  | none => rfl
  | some p =>
    obtain ⟨e, s⟩ := p
    dsimp only [outM]
    by_cases he : e ≠ 0
    · rw [if_pos he, if_pos he]
    · rw [if_neg he, if_neg he]
      rfl

theorem kent_at (y : UInt8) (r : List UInt8) : ((kent y r)[4]?.getD 0) = y ∧ (kent y r)[5]?.getD 0 = r[0]?.getD 0 ∧ leNat ((kent y r).take 4) = 2 ∧ (kent y r).drop 6 = r.drop 1 ∧ (kent y r).drop 8 = r.drop 3 := by
  refine ⟨rfl, ?_, ?_, ?_, ?_⟩
  · simp [kent]
  · simp [kent, leNat]
  · simp [kent]
  · simp [kent]

theorem kent_no (y : UInt8) (r : List UInt8) (hr : r.length = 11) (h : ¬ (y.toNat = 15 ∨ y.toNat = 3)) : tableM (kent y r) knames 255 = ([], 0) :=
  kent_val y r hr none (entryM_not (by rw [(kent_at y r).1]; exact h))

theorem kent_3 (r : List UInt8) (hr : r.length = 11) : ∃ s : Sym, tableM (kent 3 r) knames 255 = ([s], 0) ∧ s.name = [97, 98] ∧ s.sect = 0 ∧ s.weak = (leNat ((r.drop 1).take 2) / 128 % 2 == 1) := by
  obtain ⟨h4, h5, hn, h6, h8⟩ := kent_at 3 r
  have ht : toldM ((kent 3 r)[4]?.getD 0).toNat ((kent 3 r)[5]?.getD 0).toNat (leNat (((kent 3 r).drop 6).take 2)) (leNat (((kent 3 r).drop 8).take 8)) 255 = (⟨[], 0, leNat (((kent 3 r).drop 8).take 8), leNat (((kent 3 r).drop 6).take 2) / 128 % 2 == 1⟩, true, 0) := by
    rw [h4]; rfl
  have he := entryM_told (names := knames) ht
  rw [hn, ktext] at he
  refine ⟨_, kent_val 3 r hr _ he, rfl, rfl, ?_⟩
  show (leNat (((kent 3 r).drop 6).take 2) / 128 % 2 == 1) = _
  rw [h6]

theorem kent_15z (r : List UInt8) (hr : r.length = 11) (h0 : (r[0]?.getD 0).toNat = 0) : tableM (kent 15 r) knames 255 = ([], 13) := by
  obtain ⟨h4, h5, hn, h6, h8⟩ := kent_at 15 r
  have ht : toldM ((kent 15 r)[4]?.getD 0).toNat ((kent 15 r)[5]?.getD 0).toNat (leNat (((kent 15 r).drop 6).take 2)) (leNat (((kent 15 r).drop 8).take 8)) 255 = (Sym.zero, true, 13) := by
    rw [h4, h5, h0]; rfl
  exact kent_val 15 r hr _ (entryM_told (names := knames) ht)

theorem kent_15 (r : List UInt8) (hr : r.length = 11) (h0 : (r[0]?.getD 0).toNat ≠ 0) : ∃ s : Sym, tableM (kent 15 r) knames 255 = ([s], 0) ∧ s.name = [97, 98] ∧ s.sect ≠ 0 ∧ s.weak = (leNat ((r.drop 1).take 2) / 128 % 2 == 1) := by
  obtain ⟨h4, h5, hn, h6, h8⟩ := kent_at 15 r
  have hb := (r[0]?.getD 0).toNat_lt
  have ht : toldM ((kent 15 r)[4]?.getD 0).toNat ((kent 15 r)[5]?.getD 0).toNat (leNat (((kent 15 r).drop 6).take 2)) (leNat (((kent 15 r).drop 8).take 8)) 255 = (⟨[], ((r[0]?.getD 0).toNat : Int), leNat (((kent 15 r).drop 8).take 8), leNat (((kent 15 r).drop 6).take 2) / 128 % 2 == 1⟩, true, 0) := by
    rw [h4, h5]; unfold toldM; rw [if_pos (show UInt8.toNat 15 = 15 from rfl), if_neg (by omega)]
  have he := entryM_told (names := knames) ht
  rw [hn, ktext] at he
  refine ⟨_, kent_val 15 r hr _ he, rfl, ?_, ?_⟩
  · show ((r[0]?.getD 0).toNat : Int) ≠ 0
    omega
  · show (leNat (((kent 15 r).drop 6).take 2) / 128 % 2 == 1) = _
    rw [h6]

theorem weak_byte (a b : UInt8) : (leNat [a, b] / 128 % 2 == 1) = decide (128 ≤ (a.toNat : Int)) := by
  have ha := a.toNat_lt
  rw [Bool.eq_iff_iff]
  simp [leNat]
  omega

/-- The tests on a kind. -/
theorem kind_tests : ∀ k : Fin 256, ((bits BinOp.and IntKind.i64 (k.val : Int) 1 == 1) && (bits BinOp.and IntKind.i64 (k.val : Int) 240 == 0) && ((bits BinOp.and IntKind.i64 (k.val : Int) 14 == 14) || (bits BinOp.and IntKind.i64 (k.val : Int) 14 == 2))) = decide (k.val = 15 ∨ k.val = 3) := by decide +kernel

end Go.Proofs.Ytdckfcpjdakjaaa
