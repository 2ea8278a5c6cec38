/- How a job that came in is opened. -/
import Derived.Test.YtfkpbgookilhjaaGreatDoorZScO
import Derived.Test.YtfkpbgookilhjaaGreatDoorZScN
import Derived.Test.YtfkpbgookilhjaaGreatDoorZScTr
import Derived.SizedLaws
namespace Go.Proofs.YtfkpbgookilhjaaGreatDoor
set_option linter.unusedSimpArgs false
set_option linter.unusedVariables false
open Go.ChangeShapes Go.WideShapes Go.ChangeAt Go.RowKit Go.Joins Go.Deep

theorem mkS_dataJ (a : ByteArray) : mkS a.data.toList = a := by cases a; simp [mkS]

section
variable {H : Type} {enc : TypeId × Value → H} {P : Program} {W : World} {base base' : Nat} {sp : Nat → Bool} {held : Bool}
theorem open_agg6 {r : Reach} {b0 : Nat} {t : TypeId} {f0 f1 f2 f3 f4 f5 : Field} {v : Value} {d : DataW H} {p : List MemPlace} (hs : P.underlying t = some (.struct #[f0, f1, f2, f3, f4, f5])) (hone : oneCellFields P #[f0, f1, f2, f3, f4, f5] = true) (hC : P.cellsOf t = 6)
    (hv : Value.okWide P W r b0 t v) (h : DataW.Trod enc P W base sp held t v d p) :
    ∃ (v0 v1 v2 v3 v4 v5 : Value) (y0 y1 y2 y3 y4 y5 : DataW H × List MemPlace) (n : Nat), v = .agg #[v0, v1, v2, v3, v4, v5] ∧
      DataW.trod enc P W base sp held n f0.type [v0] = some y0 ∧ DataW.trod enc P W base sp held n f1.type [v1] = some y1 ∧ DataW.trod enc P W base sp held n f2.type [v2] = some y2 ∧ DataW.trod enc P W base sp held n f3.type [v3] = some y3 ∧ DataW.trod enc P W base sp held n f4.type [v4] = some y4 ∧ DataW.trod enc P W base sp held n f5.type [v5] = some y5 := by
  obtain ⟨cs, rfl, hsz⟩ := okWide_struct hs hv
  obtain ⟨l⟩ := cs
  match l, hsz.trans hC with
  | [c0, c1, c2, c3, c4, c5], _ =>
    obtain ⟨fuel, hf⟩ := h
    obtain ⟨xs, n, _, hx, _, hlen, hg⟩ := DataW.trod_struct hs hf
    obtain ⟨o0, k0⟩ := hone_of hone 0 f0 rfl
    obtain ⟨o1, k1⟩ := hone_of hone 1 f1 rfl
    obtain ⟨o2, k2⟩ := hone_of hone 2 f2 rfl
    obtain ⟨o3, k3⟩ := hone_of hone 3 f3 rfl
    obtain ⟨o4, k4⟩ := hone_of hone 4 f4 rfl
    obtain ⟨o5, k5⟩ := hone_of hone 5 f5 rfl
    match xs, hlen with
    | [y0, y1, y2, y3, y4, y5], _ =>
      exact ⟨c0, c1, c2, c3, c4, c5, y0, y1, y2, y3, y4, y5, n, rfl, by simpa [Value.cells, o0, k0] using hg 0 f0 rfl, by simpa [Value.cells, o1, k1] using hg 1 f1 rfl, by simpa [Value.cells, o2, k2] using hg 2 f2 rfl, by simpa [Value.cells, o3, k3] using hg 3 f3 rfl, by simpa [Value.cells, o4, k4] using hg 4 f4 rfl, by simpa [Value.cells, o5, k5] using hg 5 f5 rfl⟩
/-- Two fields of one cell each. -/
theorem open_two {t : TypeId} {f0 f1 : Field} {n : Nat} {cs : List Value} {x : DataW H × List MemPlace} (hs : P.underlying t = some (.struct #[f0, f1])) (hone : oneCellFields P #[f0, f1] = true) (hC : P.cellsOf t = 2) (h : DataW.trod enc P W base sp held n t cs = some x) :
    ∃ (v0 v1 : Value) (y0 y1 : DataW H × List MemPlace) (n : Nat), cs = [v0, v1] ∧ DataW.trod enc P W base sp held n f0.type [v0] = some y0 ∧ DataW.trod enc P W base sp held n f1.type [v1] = some y1 := by
  obtain ⟨xs, m, _, hx, hl, hlen, hg⟩ := DataW.trod_struct hs h
  obtain ⟨o0, k0⟩ := hone_of hone 0 f0 rfl
  obtain ⟨o1, k1⟩ := hone_of hone 1 f1 rfl
  match cs, hl.trans hC with
  | [c0, c1], _ =>
    match xs, hlen with
    | [y0, y1], _ =>
      exact ⟨c0, c1, y0, y1, m, rfl, by simpa [o0, k0] using hg 0 f0 rfl, by simpa [o1, k1] using hg 1 f1 rfl⟩
end

section
variable {H : Type} {enc : TypeId × Value → H} {W : World} {base base' : Nat} {sp : Nat → Bool} {held : Bool}
theorem one_str (n : Nat) (c : List Value) (y : DataW H × List MemPlace) (h : DataW.trod enc Tryz.prog W base sp held n 9 c = some y) : ∃ x, c = strC x ∧ True := by
  obtain ⟨s, rfl, -⟩ := DataW.trod_string Tryz.underlying9 h
  exact ⟨s.data.toList, by unfold strC; rw [mkS_dataJ], trivial⟩
theorem one_file (n : Nat) (c : List Value) (y : DataW H × List MemPlace) (h : DataW.trod enc Tryz.prog W base sp held n 39 c = some y) : ∃ x : FileV, c = x.cells ∧ BigBS W x.p x.n x.cap x.bytes := by
  obtain ⟨v0, v1, y0, y1, m, rfl, h0, h1⟩ := open_two Tryz.underlying39 (by kernel_rfl) (by kernel_rfl) h
  obtain ⟨s, e0, -⟩ := DataW.trod_string Tryz.underlying9 h0
  obtain ⟨a, len, cap, e1, l, hl⟩ := open_bytes Tryz.underlying30 Tryz.underlying5 (by kernel_rfl) h1
  simp only [List.cons.injEq, and_true] at e0 e1
  subst e0 e1
  exact ⟨⟨s.data.toList, a, len, cap, l⟩, by unfold FileV.cells; rw [mkS_dataJ], hl⟩

set_option maxRecDepth 20000 in
theorem open_job {v : Value} {d : DataW H} {p : List MemPlace} (hv : Value.okWide Tryz.prog W .any base' 27 v) (h : DataW.Trod enc Tryz.prog W base sp held 27 v d p) : ∃ j : JobV, v = .agg j.cells ∧ JobAt W j := by
  obtain ⟨v0, v1, v2, v3, v4, v5, y0, y1, y2, y3, y4, y5, n, rfl, h0, h1, h2, h3, h4, h5⟩ := open_agg6 Tryz.underlying27 (by kernel_rfl) (by kernel_rfl) hv h
  obtain ⟨p0, n0, c0, e0, fs, hfs, hq⟩ := open_rows_of (cs := FileV.cells) (k := 2) (fun x : FileV => BigBS W x.p x.n x.cap x.bytes) Tryz.underlying22 (by kernel_rfl) (by omega) filesLen one_file h0
  obtain ⟨s1, e1, -⟩ := DataW.trod_string Tryz.underlying9 h1
  obtain ⟨p2, n2, c2, e2, ss, hss, -⟩ := open_rows_of (cs := strC) (k := 1) (fun _ => True) Tryz.underlying23 (by kernel_rfl) (by omega) (fun _ => rfl) one_str h2
  obtain ⟨m3, e3, -, w3⟩ := DataW.trod_int Tryz.underlying24 h3
  obtain ⟨m4, e4, -, w4⟩ := DataW.trod_int Tryz.underlying25 h4
  obtain ⟨b5, e5, -⟩ := DataW.trod_bool Tryz.underlying4 h5
  simp only [List.cons.injEq, and_true] at e0 e1 e2 e3 e4 e5
  subst e0 e1 e2 e3 e4 e5
  have hw := wf_u64 w4
  obtain rfl := RowsAt.len' hfs
  obtain rfl := RowsAt.len' hss
  refine ⟨⟨p0, c0, fs, s1.data.toList, p2, c2, ss, m3, m4.toNat, b5⟩, ?_, hfs, hq, hss, by show m4.toNat < 2 ^ 64; omega⟩
  unfold JobV.cells
  rw [mkS_dataJ, Int.toNat_of_nonneg hw.1]
end
end Go.Proofs.YtfkpbgookilhjaaGreatDoor

namespace Go.Proofs.YtfkpbgookilhjaaGreatDoor
set_option linter.unusedSimpArgs false
set_option linter.unusedVariables false
open Go.ChangeShapes Go.WideShapes Go.ChangeAt Go.RowKit Go.Joins Go.Deep

section
variable {H : Type} {enc : TypeId × Value → H} {P : Program} {W : World} {base base' : Nat} {sp : Nat → Bool} {held : Bool}
/-- A struct of five fields, the first of three cells. -/
theorem open_told5 {t : TypeId} {f0 f1 f2 f3 f4 : Field} {fuel : Nat} {cs : List Value} {x : DataW H × List MemPlace} (hs : P.underlying t = some (.struct #[f0, f1, f2, f3, f4]))
    (ho : (f0.offset, f1.offset, f2.offset, f3.offset, f4.offset) = (0, 3, 4, 5, 6)) (hc : (P.cellsOf f0.type, P.cellsOf f1.type, P.cellsOf f2.type, P.cellsOf f3.type, P.cellsOf f4.type) = (3, 1, 1, 1, 1)) (hC : P.cellsOf t = 7)
    (h : DataW.trod enc P W base sp held fuel t cs = some x) :
    ∃ (c0 c1 c2 c3 c4 c5 c6 : Value) (y0 y1 y2 y3 y4 : DataW H × List MemPlace) (n : Nat), cs = [c0, c1, c2, c3, c4, c5, c6] ∧ x.1 = .agg [y0.1, y1.1, y2.1, y3.1, y4.1] ∧
      DataW.trod enc P W base sp held n f0.type [c0, c1, c2] = some y0 ∧ DataW.trod enc P W base sp held n f1.type [c3] = some y1 ∧ DataW.trod enc P W base sp held n f2.type [c4] = some y2 ∧ DataW.trod enc P W base sp held n f3.type [c5] = some y3 ∧ DataW.trod enc P W base sp held n f4.type [c6] = some y4 := by
  obtain ⟨xs, n, _, hx, hl, hlen, hg⟩ := DataW.trod_struct hs h
  simp only [Prod.mk.injEq] at ho hc
  obtain ⟨o0, o1, o2, o3, o4⟩ := ho
  obtain ⟨k0, k1, k2, k3, k4⟩ := hc
  match cs, hl.trans hC with
  | [c0, c1, c2, c3, c4, c5, c6], _ =>
    match xs, hlen with
    | [y0, y1, y2, y3, y4], _ =>
      exact ⟨c0, c1, c2, c3, c4, c5, c6, y0, y1, y2, y3, y4, n, rfl, by rw [hx]; rfl, by simpa [o0, k0] using hg 0 f0 rfl, by simpa [o1, k1] using hg 1 f1 rfl, by simpa [o2, k2] using hg 2 f2 rfl, by simpa [o3, k3] using hg 3 f3 rfl, by simpa [o4, k4] using hg 4 f4 rfl⟩
theorem open_three {t : TypeId} {f0 f1 f2 : Field} {n : Nat} {cs : List Value} {x : DataW H × List MemPlace} (hs : P.underlying t = some (.struct #[f0, f1, f2])) (hone : oneCellFields P #[f0, f1, f2] = true) (hC : P.cellsOf t = 3) (h : DataW.trod enc P W base sp held n t cs = some x) :
    ∃ (v0 v1 v2 : Value) (y0 y1 y2 : DataW H × List MemPlace) (n : Nat), cs = [v0, v1, v2] ∧ DataW.trod enc P W base sp held n f0.type [v0] = some y0 ∧ DataW.trod enc P W base sp held n f1.type [v1] = some y1 ∧ DataW.trod enc P W base sp held n f2.type [v2] = some y2 := by
  obtain ⟨xs, m, _, hx, hl, hlen, hg⟩ := DataW.trod_struct hs h
  obtain ⟨o0, k0⟩ := hone_of hone 0 f0 rfl
  obtain ⟨o1, k1⟩ := hone_of hone 1 f1 rfl
  obtain ⟨o2, k2⟩ := hone_of hone 2 f2 rfl
  match cs, hl.trans hC with
  | [c0, c1, c2], _ =>
    match xs, hlen with
    | [y0, y1, y2], _ =>
      exact ⟨c0, c1, c2, y0, y1, y2, m, rfl, by simpa [o0, k0] using hg 0 f0 rfl, by simpa [o1, k1] using hg 1 f1 rfl, by simpa [o2, k2] using hg 2 f2 rfl⟩

/-- The form's own reach, of a slice. -/
theorem slice_sized {t e : TypeId} {p : Option Addr} {n cap fuel : Nat} {y : DataW H × List MemPlace} (ht : P.underlying t = some (.slice e)) (hb : 0 < P.bytesOf e) (h : DataW.trod enc P W base sp held fuel t [.slice p n cap] = some y)
    (hw : ∀ k ∈ y.1.weights P t, k ≤ reachBytes) : n ≤ reachBytes := by
  rcases DataW.trod_slice ht h with ⟨hc, -⟩ | ⟨a, len, cap', elems, rest, m, -, hc, hx, -, -, -, hl, -⟩
  · simp only [List.cons.injEq, and_true, Value.slice.injEq] at hc
    rw [hc.2.1]; exact Nat.zero_le _
  · simp only [List.cons.injEq, and_true, Value.slice.injEq] at hc
    rw [hc.2.1]
    subst hx
    have := hw _ (by simp only [DataW.weights, ht]; exact List.mem_cons_self)
    simp only [List.length_map] at this
    rw [hl] at this
    exact Nat.le_trans (Nat.le_trans (Nat.le_add_right _ _) (Nat.le_mul_of_pos_right _ hb)) this
end

section
variable {H : Type} {enc : TypeId × Value → H} {W : World} {base base' : Nat} {sp : Nat → Bool} {held : Bool}
theorem one_int (n : Nat) (c : List Value) (y : DataW H × List MemPlace) (h : DataW.trod enc Tryz.prog W base sp held n 3 c = some y) : ∃ x, c = intC x ∧ True := by
  obtain ⟨m, e, -, -⟩ := DataW.trod_int Tryz.underlying3 h
  exact ⟨m, e, trivial⟩
theorem one_seat (n : Nat) (c : List Value) (y : DataW H × List MemPlace) (h : DataW.trod enc Tryz.prog W base sp held n 90 c = some y) : ∃ x : SeatV, c = x.cells ∧ (IntsAt W (.slice x.p x.deps.length x.cap) x.deps ∧ x.slide < 2 ^ 64) := by
  obtain ⟨v0, v1, v2, y0, y1, y2, m, rfl, h0, h1, h2⟩ := open_three Tryz.underlying90 (by kernel_rfl) (by kernel_rfl) h
  obtain ⟨s, e0, -⟩ := DataW.trod_string Tryz.underlying9 h0
  obtain ⟨m1, e1, -, w1⟩ := DataW.trod_int Tryz.underlying25 h1
  obtain ⟨a, len, cap, e2, l, hl, -⟩ := open_rows_of (cs := intC) (k := 1) (fun _ => True) Tryz.underlying88 (by kernel_rfl) (by omega) (fun _ => rfl) one_int h2
  simp only [List.cons.injEq, and_true] at e0 e1 e2
  subst e0 e1 e2
  have hw := wf_u64 w1
  obtain rfl := RowsAt.len' hl
  exact ⟨⟨s.data.toList, m1.toNat, a, cap, l⟩, by unfold SeatV.cells; rw [mkS_dataJ, Int.toNat_of_nonneg hw.1], hl, by show m1.toNat < 2 ^ 64; omega⟩
theorem one_piece (n : Nat) (c : List Value) (y : DataW H × List MemPlace) (h : DataW.trod enc Tryz.prog W base sp held n 41 c = some y) : ∃ x : PieceV, c = x.cells ∧ (BigBS W x.p x.n x.cap x.bytes ∧ x.at_ < 2 ^ 64) := by
  obtain ⟨v0, v1, v2, y0, y1, y2, m, rfl, h0, h1, h2⟩ := open_three Tryz.underlying41 (by kernel_rfl) (by kernel_rfl) h
  obtain ⟨m0, e0, -, w0⟩ := DataW.trod_int Tryz.underlying25 h0
  obtain ⟨m1, e1, -, w1⟩ := DataW.trod_int Tryz.underlying3 h1
  obtain ⟨a, len, cap, e2, l, hl⟩ := open_bytes Tryz.underlying30 Tryz.underlying5 (by kernel_rfl) h2
  simp only [List.cons.injEq, and_true] at e0 e1 e2
  subst e0 e1 e2
  have hw := wf_u64 w0
  exact ⟨⟨m0.toNat, m1, a, len, cap, l⟩, by unfold PieceV.cells; rw [Int.toNat_of_nonneg hw.1], hl, by show m0.toNat < 2 ^ 64; omega⟩
theorem one_init (n : Nat) (c : List Value) (y : DataW H × List MemPlace) (h : DataW.trod enc Tryz.prog W base sp held n 95 c = some y) : ∃ x : InitM, c = x.cells ∧ x.at_ < 2 ^ 64 := by
  obtain ⟨v0, v1, y0, y1, m, rfl, h0, h1⟩ := open_two Tryz.underlying95 (by kernel_rfl) (by kernel_rfl) h
  obtain ⟨m0, e0, -, w0⟩ := DataW.trod_int Tryz.underlying3 h0
  obtain ⟨m1, e1, -, w1⟩ := DataW.trod_int Tryz.underlying25 h1
  simp only [List.cons.injEq, and_true] at e0 e1
  subst e0 e1
  have hw := wf_u64 w1
  exact ⟨⟨m0, m1.toNat⟩, by unfold InitM.cells; rw [Int.toNat_of_nonneg hw.1], by show m1.toNat < 2 ^ 64; omega⟩

instance : Inhabited SeatV := ⟨⟨[], 0, none, 0, []⟩⟩
instance : Inhabited PieceV := ⟨⟨0, 0, none, 0, 0, []⟩⟩
instance : Inhabited InitM := ⟨⟨0, 0⟩⟩

set_option maxRecDepth 20000 in
theorem open_told {v : Value} {d : DataW H} {p : List MemPlace} (hv : Value.okWide Tryz.prog W .any base' 49 v) (h : DataW.Trod enc Tryz.prog W base sp held 49 v d p)
    (hsz : (DataW.weightsEach Tryz.prog [49] [d]).all (· ≤ reachBytes) = true) : ∃ t : ToldV, v = .agg t.h.cells ∧ ToldAt W t ∧ Small t := by
  obtain ⟨cs, rfl, hcs⟩ := okWide_struct Tryz.underlying49 hv
  obtain ⟨fuel, hf⟩ := h
  obtain ⟨c0, c1, c2, c3, c4, c5, c6, y0, y1, y2, y3, y4, n, hcl, hx, h0, h1, h2, h3, h4⟩ := open_told5 Tryz.underlying49 (by kernel_rfl) (by kernel_rfl) (by kernel_rfl) hf
  have hcs : cs = #[c0, c1, c2, c3, c4, c5, c6] := by
    obtain ⟨l⟩ := cs
    have e : l = [c0, c1, c2, c3, c4, c5, c6] := hcl
    rw [e]
  subst hcs
  obtain ⟨p0, p1, p2, z0, z1, z2, m, e0, g0, g1, g2⟩ := open_three Tryz.underlying45 (by kernel_rfl) (by kernel_rfl) h0
  simp only [List.cons.injEq, and_true] at e0
  obtain ⟨rfl, rfl, rfl⟩ := e0
  obtain ⟨a0, u0, -, -⟩ := DataW.trod_int Tryz.underlying43 g0
  obtain ⟨s1, u1, -⟩ := DataW.trod_string Tryz.underlying9 g1
  obtain ⟨a2, u2, -, -⟩ := DataW.trod_int Tryz.underlying31 g2
  obtain ⟨b1, n1, k1, e1, l1, r1, q1⟩ := open_rows_of (cs := SeatV.cells) (k := 3) (fun x : SeatV => IntsAt W (.slice x.p x.deps.length x.cap) x.deps ∧ x.slide < 2 ^ 64) Tryz.underlying46 (by kernel_rfl) (by omega) seatsLen one_seat h1
  obtain ⟨b2, n2, k2, e2, l2, r2, q2⟩ := open_rows_of (cs := PieceV.cells) (k := 3) (fun x : PieceV => BigBS W x.p x.n x.cap x.bytes ∧ x.at_ < 2 ^ 64) Tryz.underlying42 (by kernel_rfl) (by omega) piecesLen one_piece h2
  obtain ⟨b3, n3, k3, e3, l3, r3, q3⟩ := open_rows_of (cs := InitM.cells) (k := 2) (fun x : InitM => x.at_ < 2 ^ 64) Tryz.underlying47 (by kernel_rfl) (by omega) initsLen one_init h3
  obtain ⟨m4, e4, -, w4⟩ := DataW.trod_int Tryz.underlying25 h4
  simp only [List.cons.injEq, and_true] at u0 u1 u2 e1 e2 e3 e4
  subst u0 u1 u2 e1 e2 e3 e4
  have hw := wf_u64 w4
  obtain rfl := RowsAt.len' r1
  obtain rfl := RowsAt.len' r2
  obtain rfl := RowsAt.len' r3
  dsimp only at hx
  have hall : ∀ k ∈ d.weights Tryz.prog 49, k ≤ reachBytes := fun k hk => by
    have := List.all_eq_true.1 hsz k (DataW.weights_mem_each (j := 0) rfl rfl k hk)
    simpa using this
  rw [hx] at hall
  have hin : ∀ (j : Nat) (t : TypeId) (x : DataW H), ([45, 46, 42, 47, 25] : List TypeId)[j]? = some t → [y0.1, y1.1, y2.1, y3.1, y4.1][j]? = some x → ∀ k ∈ x.weights Tryz.prog t, k ≤ reachBytes := fun j t x hj hxj k hk =>
    hall k (by simp only [DataW.weights, Tryz.underlying49]; exact DataW.weights_mem_each (j := j) hj hxj k hk)
  have s1' := slice_sized Tryz.underlying46 (by decide +kernel) h1 (hin 1 _ _ rfl rfl)
  have s2' := slice_sized Tryz.underlying42 (by decide +kernel) h2 (hin 2 _ _ rfl rfl)
  have s3' := slice_sized Tryz.underlying47 (by decide +kernel) h3 (hin 3 _ _ rfl rfl)
  refine ⟨⟨a0, s1.data.toList, a2, b1, k1, l1, b2, k2, l2, b3, k3, l3, m4.toNat⟩, ?_, ⟨r1, fun s hs => (q1 s hs).1, fun s hs => (q1 s hs).2, r2, fun s hs => (q2 s hs).1, fun s hs => (q2 s hs).2, r3, q3, by show m4.toNat < 2 ^ 64; omega⟩, ?_⟩
  · unfold ToldH.cells ToldV.h
    dsimp only
    rw [mkS_dataJ, Int.toNat_of_nonneg hw.1]
  · have hr := reachBytes_lt
    unfold Small
    dsimp only
    omega
end
end Go.Proofs.YtfkpbgookilhjaaGreatDoor
