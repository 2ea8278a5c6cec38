/- How a job that came in is opened. -/
import Derived.Test.YtfkpbgookilhjaaGreatDoorScS
import Derived.Test.YtfkpbgookilhjaaGreatDoorScN
namespace Go.Proofs.YtfkpbgookilhjaaGreatDoor
set_option linter.unusedSimpArgs false
set_option linter.unusedVariables false
open Go.ChangeShapes Go.WideShapes Go.ChangeAt Go.RowKit Go.Joins Go.Deep

theorem mkS_dataJ (a : ByteArray) : mkS a.data.toList = a := by cases a; simp [mkS]

section
variable {H : Type} {enc : TypeId × Value → H} {P : Program} {W : World} {base base' : Nat} {sp : Nat → Bool} {held : Bool}
theorem open_agg6 {r : Reach} {b0 : Nat} {t : TypeId} {f0 f1 f2 f3 f4 f5 : Field} {v : Value} {d : DataW H} {p : List MemPlace} (hs : P.underlying t = some (.struct #[f0, f1, f2, f3, f4, f5])) (hone : oneCellFields P #[f0, f1, f2, f3, f4, f5] = true) (hC : P.cellsOf t = 6)
    (hv : Value.okWide P W r b0 t v) (h : DataW.Trod enc P W base sp held t v d p) :
    ∃ (v0 v1 v2 v3 v4 v5 : Value) (y0 y1 y2 y3 y4 y5 : DataW H × List MemPlace) (n : Nat), v = .agg #[v0, v1, v2, v3, v4, v5] ∧
      DataW.trod enc P W base sp held n f0.type [v0] = some y0 ∧ DataW.trod enc P W base sp held n f1.type [v1] = some y1 ∧ DataW.trod enc P W base sp held n f2.type [v2] = some y2 ∧ DataW.trod enc P W base sp held n f3.type [v3] = some y3 ∧ DataW.trod enc P W base sp held n f4.type [v4] = some y4 ∧ DataW.trod enc P W base sp held n f5.type [v5] = some y5 := by
  obtain ⟨cs, rfl, hsz⟩ := okWide_struct hs hv
  obtain ⟨l⟩ := cs
  match l, hsz.trans hC with
  | [c0, c1, c2, c3, c4, c5], _ =>
    obtain ⟨fuel, hf⟩ := h
    obtain ⟨xs, n, _, hx, _, hlen, hg⟩ := DataW.trod_struct hs hf
    obtain ⟨o0, k0⟩ := hone_of hone 0 f0 rfl
    obtain ⟨o1, k1⟩ := hone_of hone 1 f1 rfl
    obtain ⟨o2, k2⟩ := hone_of hone 2 f2 rfl
    obtain ⟨o3, k3⟩ := hone_of hone 3 f3 rfl
    obtain ⟨o4, k4⟩ := hone_of hone 4 f4 rfl
    obtain ⟨o5, k5⟩ := hone_of hone 5 f5 rfl
    match xs, hlen with
    | [y0, y1, y2, y3, y4, y5], _ =>
      exact ⟨c0, c1, c2, c3, c4, c5, y0, y1, y2, y3, y4, y5, n, rfl, by simpa [Value.cells, o0, k0] using hg 0 f0 rfl, by simpa [Value.cells, o1, k1] using hg 1 f1 rfl, by simpa [Value.cells, o2, k2] using hg 2 f2 rfl, by simpa [Value.cells, o3, k3] using hg 3 f3 rfl, by simpa [Value.cells, o4, k4] using hg 4 f4 rfl, by simpa [Value.cells, o5, k5] using hg 5 f5 rfl⟩
/-- Two fields of one cell each. -/
theorem open_two {t : TypeId} {f0 f1 : Field} {n : Nat} {cs : List Value} {x : DataW H × List MemPlace} (hs : P.underlying t = some (.struct #[f0, f1])) (hone : oneCellFields P #[f0, f1] = true) (hC : P.cellsOf t = 2) (h : DataW.trod enc P W base sp held n t cs = some x) :
    ∃ (v0 v1 : Value) (y0 y1 : DataW H × List MemPlace) (n : Nat), cs = [v0, v1] ∧ DataW.trod enc P W base sp held n f0.type [v0] = some y0 ∧ DataW.trod enc P W base sp held n f1.type [v1] = some y1 := by
  obtain ⟨xs, m, _, hx, hl, hlen, hg⟩ := DataW.trod_struct hs h
  obtain ⟨o0, k0⟩ := hone_of hone 0 f0 rfl
  obtain ⟨o1, k1⟩ := hone_of hone 1 f1 rfl
  match cs, hl.trans hC with
  | [c0, c1], _ =>
    match xs, hlen with
    | [y0, y1], _ =>
      exact ⟨c0, c1, y0, y1, m, rfl, by simpa [o0, k0] using hg 0 f0 rfl, by simpa [o1, k1] using hg 1 f1 rfl⟩
end

section
variable {H : Type} {enc : TypeId × Value → H} {W : World} {base base' : Nat} {sp : Nat → Bool} {held : Bool}
theorem one_str (n : Nat) (c : List Value) (y : DataW H × List MemPlace) (h : DataW.trod enc Tryz.prog W base sp held n 9 c = some y) : ∃ x, c = strC x ∧ True := by
  obtain ⟨s, rfl, -⟩ := DataW.trod_string Tryz.underlying9 h
  exact ⟨s.data.toList, by unfold strC; rw [mkS_dataJ], trivial⟩
theorem one_file (n : Nat) (c : List Value) (y : DataW H × List MemPlace) (h : DataW.trod enc Tryz.prog W base sp held n 39 c = some y) : ∃ x : FileV, c = x.cells ∧ BigBS W x.p x.n x.cap x.bytes := by
  obtain ⟨v0, v1, y0, y1, m, rfl, h0, h1⟩ := open_two Tryz.underlying39 (by kernel_rfl) (by kernel_rfl) h
  obtain ⟨s, e0, -⟩ := DataW.trod_string Tryz.underlying9 h0
  obtain ⟨a, len, cap, e1, l, hl⟩ := open_bytes Tryz.underlying30 Tryz.underlying5 (by kernel_rfl) h1
  simp only [List.cons.injEq, and_true] at e0 e1
  subst e0 e1
  exact ⟨⟨s.data.toList, a, len, cap, l⟩, by unfold FileV.cells; rw [mkS_dataJ], hl⟩

set_option maxRecDepth 20000 in
theorem open_job {v : Value} {d : DataW H} {p : List MemPlace} (hv : Value.okWide Tryz.prog W .any base' 27 v) (h : DataW.Trod enc Tryz.prog W base sp held 27 v d p) : ∃ j : JobV, v = .agg j.cells ∧ JobAt W j := by
  obtain ⟨v0, v1, v2, v3, v4, v5, y0, y1, y2, y3, y4, y5, n, rfl, h0, h1, h2, h3, h4, h5⟩ := open_agg6 Tryz.underlying27 (by kernel_rfl) (by kernel_rfl) hv h
  obtain ⟨p0, n0, c0, e0, fs, hfs, hq⟩ := open_rows_of (cs := FileV.cells) (k := 2) (fun x : FileV => BigBS W x.p x.n x.cap x.bytes) Tryz.underlying22 (by kernel_rfl) (by omega) filesLen one_file h0
  obtain ⟨s1, e1, -⟩ := DataW.trod_string Tryz.underlying9 h1
  obtain ⟨p2, n2, c2, e2, ss, hss, -⟩ := open_rows_of (cs := strC) (k := 1) (fun _ => True) Tryz.underlying23 (by kernel_rfl) (by omega) (fun _ => rfl) one_str h2
  obtain ⟨m3, e3, -, w3⟩ := DataW.trod_int Tryz.underlying24 h3
  obtain ⟨m4, e4, -, w4⟩ := DataW.trod_int Tryz.underlying25 h4
  obtain ⟨b5, e5, -⟩ := DataW.trod_bool Tryz.underlying4 h5
  simp only [List.cons.injEq, and_true] at e0 e1 e2 e3 e4 e5
  subst e0 e1 e2 e3 e4 e5
  have hw := wf_u64 w4
  obtain rfl := RowsAt.len' hfs
  obtain rfl := RowsAt.len' hss
  refine ⟨⟨p0, c0, fs, s1.data.toList, p2, c2, ss, m3, m4.toNat, b5⟩, ?_, hfs, hq, hss, by show m4.toNat < 2 ^ 64; omega⟩
  unfold JobV.cells
  rw [mkS_dataJ, Int.toNat_of_nonneg hw.1]
end
end Go.Proofs.YtfkpbgookilhjaaGreatDoor
