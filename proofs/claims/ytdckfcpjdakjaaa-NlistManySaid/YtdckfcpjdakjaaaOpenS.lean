/- How a symbol that came in is opened. -/
import Derived.Test.YtdckfcpjdakjaaaOpen
import Derived.Test.YtdckfcpjdakjaaaFind
import Derived.Lib.SmallJoins
namespace Go.Proofs.Ytdckfcpjdakjaaa
set_option linter.unusedSimpArgs false
set_option linter.unusedVariables false
open Go.ChangeShapes Go.WideShapes Go.ChangeAt Go.RowKit Go.Joins Go.Deep

/-- A symbol's fields lie in their kinds. -/
def SymIn (sect : Int) (val : Nat) : Prop := (-9223372036854775808 ≤ sect ∧ sect ≤ 9223372036854775807) ∧ val < 18446744073709551616

section
variable {H : Type} {enc : TypeId × Value → H} {P : Program} {W : World} {base base' : Nat} {sp : Nat → Bool} {held : Bool}

/-- A symbol. -/
theorem open_sym {t : TypeId} {v : Value} {d : DataW H} {p : List MemPlace} {f0 f1 f2 f3 : Field} (hs : P.underlying t = some (.struct #[f0, f1, f2, f3])) (hone : oneCellFields P #[f0, f1, f2, f3] = true) (hC : P.cellsOf t = 4)
    (u0 : P.underlying f0.type = some .string) (u1 : P.underlying f1.type = some (.int .i64)) (u2 : P.underlying f2.type = some (.int .u64)) (u3 : P.underlying f3.type = some .bool)
    (hv : Value.okWide P W .any base' t v) (h : DataW.Trod enc P W base sp held t v d p) :
    ∃ (nm : List UInt8) (sect : Int) (val : Nat) (weak : Bool), v = .agg #[.string (mkS nm), .int .i64 sect, .int .u64 val, .bool weak] ∧ SymIn sect val := by
  obtain ⟨v0, v1, v2, v3, y0, y1, y2, y3, n, rfl, -, -, h0, h1, h2, h3⟩ := open_agg4 hs hone hC hv h
  cases n with
  | zero => simp [DataW.trod] at h0
  | succ n =>
    obtain ⟨s, e0, -⟩ := DataW.trod_string u0 h0
    obtain ⟨k, e1, -, w1⟩ := DataW.trod_int u1 h1
    obtain ⟨m, e2, -, w2⟩ := DataW.trod_int u2 h2
    obtain ⟨b, e3, -⟩ := DataW.trod_bool u3 h3
    simp only [List.cons.injEq, and_true] at e0 e1 e2 e3
    subst e0 e1 e2 e3
    have b1 := wf_i64 w1
    have b2 := wf_u64 w2
    refine ⟨s.data.toList, k, m.toNat, b, ?_, b1, by omega⟩
    rw [mkS_data, Int.toNat_of_nonneg b2.1]
end

end Go.Proofs.Ytdckfcpjdakjaaa
