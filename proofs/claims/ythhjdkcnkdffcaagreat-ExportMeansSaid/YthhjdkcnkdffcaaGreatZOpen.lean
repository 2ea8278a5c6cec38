/- How arguments that came in are opened, in these proofs' words. -/
import Derived.Test.YthhjdkcnkdffcaaGreatZPlain
import Derived.ProofKit
import Derived.OpenShut
import Derived.ShutString
import Derived.ChangeOld
import Derived.Test.YthhjdkcnkdffcaaGreatZSortE
import Derived.Lib.SmallJoins
import Derived.Deep.Slices
import Derived.Deep.Fields
import Derived.ChangeSame
namespace Go.Proofs.YthhjdkcnkdffcaaGreat
set_option linter.unusedSimpArgs false
set_option linter.unusedVariables false
open Go.ChangeShapes Go.WideShapes Go.ChangeAt Go.RowKit

theorem wf_u8 {n : Int} (h : (Lit.int .u8 n).wf = true) : 0 ≤ n ∧ n ≤ 255 := by simpa [Lit.wf, IntKind.min, IntKind.max, IntKind.signed, IntKind.bits] using h
theorem wf_u64 {n : Int} (h : (Lit.int .u64 n).wf = true) : 0 ≤ n ∧ n ≤ 18446744073709551615 := by simpa [Lit.wf, IntKind.min, IntKind.max, IntKind.signed, IntKind.bits] using h
theorem wf_i64 {n : Int} (h : (Lit.int .i64 n).wf = true) : -9223372036854775808 ≤ n ∧ n ≤ 9223372036854775807 := by simpa [Lit.wf, IntKind.min, IntKind.max, IntKind.signed, IntKind.bits] using h

theorem byte_of {n : Int} (h : (Lit.int .u8 n).wf = true) : ∃ x : UInt8, n = (x.toNat : Int) := by
  have hb := wf_u8 h
  exact ⟨UInt8.ofNat n.toNat, by simp; omega⟩

/-- A list of cells that are bytes. -/
theorem u8s_of : ∀ L : List Value, (∀ v ∈ L, ∃ x : UInt8, v = .int .u8 (x.toNat : Int)) → ∃ xs : List UInt8, L = u8s xs
  | [], _ => ⟨[], rfl⟩
  | v :: r, h => by
    obtain ⟨x, rfl⟩ := h v (by simp)
    obtain ⟨xs, rfl⟩ := u8s_of r (fun v hv => h v (by simp [hv]))
    exact ⟨x :: xs, rfl⟩

section
variable {H : Type} {enc : TypeId × Value → H} {P : Program} {W : World} {base base' : Nat} {sp : Nat → Bool} {held : Bool}

/-- A []byte. -/
theorem open_bs {t e : TypeId} {v : Value} {d : DataW H} {p : List MemPlace} (ht : P.underlying t = some (.slice e)) (he : P.underlying e = some (.int .u8)) (hc : P.cellsOf e = 1)
    (hv : Value.okWide P W .any base' t v) (h : DataW.Trod enc P W base sp held t v d p) :
    ∃ a len cap, v = .slice a len cap ∧ (len ≤ 140737488355328 → ∃ l, BS W (.slice a len cap) l) := by
  obtain ⟨a, len, cap, rfl⟩ := okWide_slice ht hv
  refine ⟨a, len, cap, rfl, fun hbig => ?_⟩
  obtain ⟨fuel, hf⟩ := h
  rcases open_ints ht he hc hf with ⟨hcs, _⟩ | ⟨x, l, c, zs, hcs, _, hl, hm, hz, _, hcell, hwz⟩
  · simp [Value.cells] at hcs
    obtain ⟨rfl, rfl, rfl⟩ := hcs
    exact ⟨[], none, 0, rfl, Nat.le_refl _, ⟨Nat.zero_le _, by simp⟩, fun h => absurd rfl h⟩
  · simp [Value.cells] at hcs
    obtain ⟨rfl, rfl, rfl⟩ := hcs
    have hz' : len ≤ zs.length := by rw [hz]; split <;> omega
    obtain ⟨xs, hxs⟩ := u8s_of ((zs.take len).map (Value.int .u8)) (fun v hv => by
      obtain ⟨n, hn, rfl⟩ := List.mem_map.1 hv
      obtain ⟨x, rfl⟩ := byte_of (hwz n (List.mem_of_mem_take hn))
      exact ⟨x, rfl⟩)
    have hlen : xs.length = len := by
      have := congrArg List.length hxs
      simp [u8s] at this; omega
    refine ⟨xs, some x, cap, by rw [hlen], by omega, ⟨hm, by omega⟩, fun hne => ?_⟩
    have hpos : 0 < len := by rw [← hlen]; exact List.length_pos_iff.2 hne
    obtain ⟨b, off, spot⟩ := x
    have h0 := hcell 0 (by omega)
    have hspot : spot = none := by simpa [Addr.add] using World.cell?_spot h0
    subst hspot
    refine ⟨b, off, rfl, fun i y hy => ?_⟩
    have hi : i < len := by have := (List.getElem?_eq_some_iff.1 hy).1; omega
    have hci := hcell i (by omega)
    have ea : (⟨b, off, none⟩ : Addr).add i = ⟨b, off + i, none⟩ := by unfold Addr.add; split <;> simp_all
    rw [ea] at hci
    rw [hci]
    have e1 : ((zs.take len).map (Value.int .u8))[i]? = some (Value.int .u8 (zs.getD i 0)) := by
      rw [List.getElem?_map, List.getElem?_take_of_lt hi, List.getElem?_eq_getElem (by omega)]
      simp [List.getElem?_eq_getElem (show i < zs.length by omega)]
    rw [hxs] at e1
    simp [u8s, hy] at e1
    simp [e1]

/-- A [n]byte by value. -/
theorem open_arr {t e : TypeId} {n : Nat} {v : Value} {d : DataW H} {p : List MemPlace} (ht : P.underlying t = some (.array n e)) (he : P.underlying e = some (.int .u8)) (hc : P.cellsOf e = 1) (hC : P.cellsOf t = n)
    (hv : Value.okWide P W .any base' t v) (h : DataW.Trod enc P W base sp held t v d p) : ∃ xs : List UInt8, xs.length = n ∧ v = .agg (u8s xs).toArray := by
  unfold Value.okWide at hv
  rw [ht] at hv
  obtain ⟨cs, rfl, hsz, -⟩ := hv
  obtain ⟨fuel, hf⟩ := h
  obtain ⟨ys, m, -, -, hl, hyl, hall⟩ := DataW.trod_array ht hf
  have hcl : cs.toList.length = n := by simpa using hsz.trans hC
  obtain ⟨xs, hxs⟩ := u8s_of cs.toList (fun v hv => by
    obtain ⟨i, hi, rfl⟩ := List.mem_iff_getElem.1 hv
    have h1 := hall i (by omega)
    rw [hc, Nat.mul_one] at h1
    have e1 : ((Value.agg cs).cells.toList.drop i).take 1 = [cs.toList[i]] := by
      show (cs.toList.drop i).take 1 = _
      rw [List.take_one, List.head?_drop, List.getElem?_eq_getElem hi]; rfl
    rw [e1, List.getElem?_eq_getElem (by omega)] at h1
    obtain ⟨a, e0, -, wa⟩ := DataW.trod_int he h1
    obtain ⟨x, rfl⟩ := byte_of wa
    simp at e0
    exact ⟨x, e0⟩)
  refine ⟨xs, ?_, ?_⟩
  · have := congrArg List.length hxs
    simp [u8s] at this; simp at hcl; omega
  · rw [← hxs]
end

end Go.Proofs.YthhjdkcnkdffcaaGreat

namespace Go.Proofs.YthhjdkcnkdffcaaGreat
set_option linter.unusedSimpArgs false
set_option linter.unusedVariables false
open Go.ChangeShapes Go.WideShapes Go.ChangeAt Go.RowKit Go.Joins Go.Deep

/-- An export's numbers lie in their kinds. -/
def ExpIn (x : Exp) : Prop := x.value < 2 ^ 64 ∧ x.resolver < 2 ^ 64 ∧ x.ordinal < 2 ^ 64

theorem mkS_data (a : ByteArray) : mkS a.data.toList = a := by cases a; simp [mkS]

section
variable {H : Type} {enc : TypeId × Value → H} {P : Program} {W : World} {base base' : Nat} {sp : Nat → Bool} {held : Bool}

theorem open_agg7 {r : Reach} {b0 : Nat} {t : TypeId} {f0 f1 f2 f3 f4 f5 f6 : Field} {v : Value} {d : DataW H} {p : List MemPlace} (hs : P.underlying t = some (.struct #[f0, f1, f2, f3, f4, f5, f6])) (hone : oneCellFields P #[f0, f1, f2, f3, f4, f5, f6] = true) (hC : P.cellsOf t = 7)
    (hv : Value.okWide P W r b0 t v) (h : DataW.Trod enc P W base sp held t v d p) :
    ∃ (v0 v1 v2 v3 v4 v5 v6 : Value) (y0 y1 y2 y3 y4 y5 y6 : DataW H × List MemPlace) (n : Nat), v = .agg #[v0, v1, v2, v3, v4, v5, v6] ∧
      DataW.trod enc P W base sp held n f0.type [v0] = some y0 ∧ DataW.trod enc P W base sp held n f1.type [v1] = some y1 ∧ DataW.trod enc P W base sp held n f2.type [v2] = some y2 ∧ DataW.trod enc P W base sp held n f3.type [v3] = some y3 ∧ DataW.trod enc P W base sp held n f4.type [v4] = some y4 ∧ DataW.trod enc P W base sp held n f5.type [v5] = some y5 ∧ DataW.trod enc P W base sp held n f6.type [v6] = some y6 := by
  obtain ⟨cs, rfl, hsz⟩ := okWide_struct hs hv
  obtain ⟨l⟩ := cs
  match l, hsz.trans hC with
  | [c0, c1, c2, c3, c4, c5, c6], _ =>
    obtain ⟨fuel, hf⟩ := h
    obtain ⟨xs, n, _, hx, _, hlen, hg⟩ := DataW.trod_struct hs hf
    obtain ⟨o0, k0⟩ := hone_of hone 0 f0 rfl
    obtain ⟨o1, k1⟩ := hone_of hone 1 f1 rfl
    obtain ⟨o2, k2⟩ := hone_of hone 2 f2 rfl
    obtain ⟨o3, k3⟩ := hone_of hone 3 f3 rfl
    obtain ⟨o4, k4⟩ := hone_of hone 4 f4 rfl
    obtain ⟨o5, k5⟩ := hone_of hone 5 f5 rfl
    obtain ⟨o6, k6⟩ := hone_of hone 6 f6 rfl
    match xs, hlen with
    | [y0, y1, y2, y3, y4, y5, y6], _ =>
      exact ⟨c0, c1, c2, c3, c4, c5, c6, y0, y1, y2, y3, y4, y5, y6, n, rfl, by simpa [Value.cells, o0, k0] using hg 0 f0 rfl, by simpa [Value.cells, o1, k1] using hg 1 f1 rfl, by simpa [Value.cells, o2, k2] using hg 2 f2 rfl, by simpa [Value.cells, o3, k3] using hg 3 f3 rfl, by simpa [Value.cells, o4, k4] using hg 4 f4 rfl, by simpa [Value.cells, o5, k5] using hg 5 f5 rfl, by simpa [Value.cells, o6, k6] using hg 6 f6 rfl⟩

/-- An export. -/
theorem open_exp {t : TypeId} {v : Value} {d : DataW H} {p : List MemPlace} {f0 f1 f2 f3 f4 f5 f6 : Field} (hs : P.underlying t = some (.struct #[f0, f1, f2, f3, f4, f5, f6])) (hone : oneCellFields P #[f0, f1, f2, f3, f4, f5, f6] = true) (hC : P.cellsOf t = 7)
    (u0 : P.underlying f0.type = some .string) (u1 : P.underlying f1.type = some (.int .i64)) (u2 : P.underlying f2.type = some .bool) (u3 : P.underlying f3.type = some (.int .u64)) (u4 : P.underlying f4.type = some (.int .u64)) (u5 : P.underlying f5.type = some (.int .u64)) (u6 : P.underlying f6.type = some .string)
    (hv : Value.okWide P W .any base' t v) (h : DataW.Trod enc P W base sp held t v d p) :
    ∃ x : Exp, v = .agg x.cells.toArray ∧ ExpIn x := by
  obtain ⟨v0, v1, v2, v3, v4, v5, v6, y0, y1, y2, y3, y4, y5, y6, n, rfl, h0, h1, h2, h3, h4, h5, h6⟩ := open_agg7 hs hone hC hv h
  cases n with
  | zero => simp [DataW.trod] at h0
  | succ n =>
    obtain ⟨s, e0, -⟩ := DataW.trod_string u0 h0
    obtain ⟨k, e1, -, -⟩ := DataW.trod_int u1 h1
    obtain ⟨b, e2, -⟩ := DataW.trod_bool u2 h2
    obtain ⟨m3, e3, -, w3⟩ := DataW.trod_int u3 h3
    obtain ⟨m4, e4, -, w4⟩ := DataW.trod_int u4 h4
    obtain ⟨m5, e5, -, w5⟩ := DataW.trod_int u5 h5
    obtain ⟨s6, e6, -⟩ := DataW.trod_string u6 h6
    simp only [List.cons.injEq, and_true] at e0 e1 e2 e3 e4 e5 e6
    subst e0 e1 e2 e3 e4 e5 e6
    have b3 := wf_u64 w3
    have b4 := wf_u64 w4
    have b5 := wf_u64 w5
    refine ⟨⟨s.data.toList, k, b, m3.toNat, m4.toNat, m5.toNat, s6.data.toList⟩, ?_, by show m3.toNat < _; omega, by show m4.toNat < _; omega, by show m5.toNat < _; omega⟩
    simp only [Exp.cells, mkS_data, Int.toNat_of_nonneg b3.1, Int.toNat_of_nonneg b4.1, Int.toNat_of_nonneg b5.1]
end

/-- The value v reads in w as the exports l, however many. -/
def EN (w : World) (v : Value) (l : List Exp) : Prop :=
  ∃ (p : Option Addr) (cap : Nat), v = .slice p l.length cap ∧ l.length ≤ cap ∧ cap ≤ maxLen ∧
    (l ≠ [] → ∃ b off, p = some ⟨b, off, none⟩ ∧ ∀ i x, l[i]? = some x → ∀ c u, x.cells[c]? = some u → w.cell? ⟨b, off + i * 7 + c, none⟩ = some u)

theorem EN.es {w : World} {v : Value} {l : List Exp} (h : EN w v l) (hl : l.length ≤ 140737488355328) : ES w v l := by
  obtain ⟨p, cap, hv, h1, h2, h3⟩ := h
  exact ⟨p, cap, hv, h1, ⟨h2, hl⟩, h3⟩
theorem EN.form {w : World} {v : Value} {l : List Exp} (h : EN w v l) : ∃ a cap, v = .slice a l.length cap := by
  obtain ⟨a, cap, rfl, _⟩ := h; exact ⟨a, cap, rfl⟩
theorem EN.len {w : World} {v : Value} {l : List Exp} (h : EN w v l) : l.length ≤ maxLen := by obtain ⟨a, cap, rfl, h1, h2, _⟩ := h; exact Nat.le_trans h1 h2
theorem EN.at {w : World} {a : Option Addr} {n cap : Nat} {l : List Exp} (h : EN w (.slice a n cap) l) {k : Nat} {x : Exp} (hx : l[k]? = some x) :
    ∃ g off, a = some ⟨g, off, none⟩ ∧ w.cell? ⟨g, off + k * 7, none⟩ = some (.string (mkS x.name)) ∧ w.cell? ⟨g, off + k * 7 + 1, none⟩ = some (.int .i64 x.kind) ∧ w.cell? ⟨g, off + k * 7 + 2, none⟩ = some (.bool x.weak) ∧ w.cell? ⟨g, off + k * 7 + 3, none⟩ = some (.int .u64 (x.value : Int)) ∧ w.cell? ⟨g, off + k * 7 + 4, none⟩ = some (.int .u64 (x.resolver : Int)) ∧ w.cell? ⟨g, off + k * 7 + 5, none⟩ = some (.int .u64 (x.ordinal : Int)) ∧ w.cell? ⟨g, off + k * 7 + 6, none⟩ = some (.string (mkS x.other)) := by
  obtain ⟨a', cap', he, h1, h2, h3⟩ := h
  cases he
  obtain ⟨g, off, rfl, hc⟩ := h3 (by intro e; rw [e] at hx; simp at hx)
  exact ⟨g, off, rfl, hc k x hx 0 _ rfl, hc k x hx 1 _ rfl, hc k x hx 2 _ rfl, hc k x hx 3 _ rfl, hc k x hx 4 _ rfl, hc k x hx 5 _ rfl, hc k x hx 6 _ rfl⟩


section
variable {H : Type} {enc : TypeId × Value → H} {P : Program} {W : World} {base base' : Nat} {sp : Nat → Bool} {held : Bool}

/-- One export, out of a row of cells. -/
theorem exp_of_cells {t : TypeId} {n : Nat} {cs : List Value} {x : DataW H × List MemPlace} {f0 f1 f2 f3 f4 f5 f6 : Field} (hs : P.underlying t = some (.struct #[f0, f1, f2, f3, f4, f5, f6])) (hone : oneCellFields P #[f0, f1, f2, f3, f4, f5, f6] = true) (hC : P.cellsOf t = 7)
    (u0 : P.underlying f0.type = some .string) (u1 : P.underlying f1.type = some (.int .i64)) (u2 : P.underlying f2.type = some .bool) (u3 : P.underlying f3.type = some (.int .u64)) (u4 : P.underlying f4.type = some (.int .u64)) (u5 : P.underlying f5.type = some (.int .u64)) (u6 : P.underlying f6.type = some .string)
    (h : DataW.trod enc P W base sp held n t cs = some x) : ∃ s : Exp, cs = s.cells ∧ ExpIn s := by
  obtain ⟨ys, m, -, -, hl, hyl, hf⟩ := DataW.trod_struct hs h
  rw [hC] at hl
  match cs, hl with
  | [c0, c1, c2, c3, c4, c5, c6], _ =>
    have hy : ∀ j, j < 7 → ∃ y, ys[j]? = some y := fun j hj => ⟨_, List.getElem?_eq_getElem (by rw [hyl]; exact hj)⟩
    obtain ⟨o0, k0⟩ := hone_of hone 0 f0 rfl
    obtain ⟨o1, k1⟩ := hone_of hone 1 f1 rfl
    obtain ⟨o2, k2⟩ := hone_of hone 2 f2 rfl
    obtain ⟨o3, k3⟩ := hone_of hone 3 f3 rfl
    obtain ⟨o4, k4⟩ := hone_of hone 4 f4 rfl
    obtain ⟨o5, k5⟩ := hone_of hone 5 f5 rfl
    obtain ⟨o6, k6⟩ := hone_of hone 6 f6 rfl
    obtain ⟨y0, e0⟩ := hy 0 (by omega)
    have g0 := hf 0 f0 rfl
    rw [e0, o0, k0] at g0
    obtain ⟨y1, e1⟩ := hy 1 (by omega)
    have g1 := hf 1 f1 rfl
    rw [e1, o1, k1] at g1
    obtain ⟨y2, e2⟩ := hy 2 (by omega)
    have g2 := hf 2 f2 rfl
    rw [e2, o2, k2] at g2
    obtain ⟨y3, e3⟩ := hy 3 (by omega)
    have g3 := hf 3 f3 rfl
    rw [e3, o3, k3] at g3
    obtain ⟨y4, e4⟩ := hy 4 (by omega)
    have g4 := hf 4 f4 rfl
    rw [e4, o4, k4] at g4
    obtain ⟨y5, e5⟩ := hy 5 (by omega)
    have g5 := hf 5 f5 rfl
    rw [e5, o5, k5] at g5
    obtain ⟨y6, e6⟩ := hy 6 (by omega)
    have g6 := hf 6 f6 rfl
    rw [e6, o6, k6] at g6
    cases m with
    | zero => simp [DataW.trod] at g0
    | succ m =>
      obtain ⟨s, d0, -⟩ := DataW.trod_string u0 g0
      obtain ⟨k, d1, -, -⟩ := DataW.trod_int u1 g1
      obtain ⟨b, d2, -⟩ := DataW.trod_bool u2 g2
      obtain ⟨m3, d3, -, w3⟩ := DataW.trod_int u3 g3
      obtain ⟨m4, d4, -, w4⟩ := DataW.trod_int u4 g4
      obtain ⟨m5, d5, -, w5⟩ := DataW.trod_int u5 g5
      obtain ⟨s6, d6, -⟩ := DataW.trod_string u6 g6
      simp at d0 d1 d2 d3 d4 d5 d6
      subst d0 d1 d2 d3 d4 d5 d6
      have b3 := wf_u64 w3
      have b4 := wf_u64 w4
      have b5 := wf_u64 w5
      refine ⟨⟨s.data.toList, k, b, m3.toNat, m4.toNat, m5.toNat, s6.data.toList⟩, ?_, by show m3.toNat < _; omega, by show m4.toNat < _; omega, by show m5.toNat < _; omega⟩
      simp only [Exp.cells, mkS_data, Int.toNat_of_nonneg b3.1, Int.toNat_of_nonneg b4.1, Int.toNat_of_nonneg b5.1]

/-- A slice of exports. -/
theorem open_exps_at {t e : TypeId} {v : Value} {d : DataW H} {p : List MemPlace} {f0 f1 f2 f3 f4 f5 f6 : Field} (ht : P.underlying t = some (.slice e)) (hs : P.underlying e = some (.struct #[f0, f1, f2, f3, f4, f5, f6])) (hone : oneCellFields P #[f0, f1, f2, f3, f4, f5, f6] = true) (hC : P.cellsOf e = 7)
    (u0 : P.underlying f0.type = some .string) (u1 : P.underlying f1.type = some (.int .i64)) (u2 : P.underlying f2.type = some .bool) (u3 : P.underlying f3.type = some (.int .u64)) (u4 : P.underlying f4.type = some (.int .u64)) (u5 : P.underlying f5.type = some (.int .u64)) (u6 : P.underlying f6.type = some .string)
    (hv : Value.okWide P W .any base' t v) (h : DataW.Trod enc P W base sp held t v d p) :
    ∃ a len cap, v = .slice a len cap ∧ ∃ l, EN W (.slice a len cap) l ∧ ∀ s ∈ l, ExpIn s := by
  obtain ⟨a, len, cap, rfl⟩ := okWide_slice ht hv
  refine ⟨a, len, cap, rfl, ?_⟩
  obtain ⟨fuel, hf⟩ := h
  rcases open_slice ht hf with ⟨hcs, _⟩ | ⟨x, l, c, m, n, D, Pl, hcs, _, hl, hm, hmm, _, hi⟩
  · simp [Value.cells] at hcs
    obtain ⟨rfl, rfl, rfl⟩ := hcs
    exact ⟨[], ⟨none, 0, rfl, Nat.le_refl _, Nat.zero_le _, fun h => absurd rfl h⟩, by simp⟩
  · simp [Value.cells] at hcs
    obtain ⟨rfl, rfl, rfl⟩ := hcs
    have hlm : len ≤ m := by rw [hmm]; split <;> omega
    rw [hC] at hi
    have hex : ∀ i, ∃ s : Exp, i < len → ((∀ j, j < 7 → W.cell? (x.add (i * 7 + j)) = s.cells[j]?) ∧ ExpIn s) := by
      intro i
      by_cases hlt : i < len
      · obtain ⟨cs', hc, htr⟩ := hi i (by omega)
        obtain ⟨s, rfl, hin⟩ := exp_of_cells hs hone hC u0 u1 u2 u3 u4 u5 u6 htr
        obtain ⟨-, -, hcell⟩ := World.cells?_some hc
        exact ⟨s, fun _ => ⟨fun j hj => by rw [← Go.Deep.add_add]; exact hcell j hj, hin⟩⟩
      · exact ⟨Exp.zero, fun h => absurd h hlt⟩
    obtain ⟨f, hfs⟩ := Classical.axiomOfChoice hex
    have hget : ∀ k s, ((List.range len).map f)[k]? = some s → k < len ∧ s = f k := by
      intro k s hk
      have hk' : k < len := by have := (List.getElem?_eq_some_iff.1 hk).1; simpa using this
      rw [List.getElem?_map, List.getElem?_range hk'] at hk
      simp at hk
      exact ⟨hk', hk.symm⟩
    refine ⟨(List.range len).map f, ⟨some x, cap, by simp, by simpa using hl, hm, fun hne => ?_⟩, fun s hs' => ?_⟩
    · have hpos : 0 < len := by
        have := List.length_pos_iff.2 hne
        simpa using this
      obtain ⟨b, off, spot⟩ := x
      have h0 := (hfs 0 hpos).1 0 (by omega)
      have h0' : W.cell? (Addr.add ⟨b, off, spot⟩ 0) = some (.string (mkS (f 0).name)) := h0
      have hspot : spot = none := by simpa [Addr.add] using World.cell?_spot h0'
      subst hspot
      refine ⟨b, off, rfl, fun k s hk c u hu => ?_⟩
      obtain ⟨hk', rfl⟩ := hget k s hk
      have hc := (hfs k hk').1
      have ea : ∀ i, (⟨b, off, none⟩ : Addr).add i = ⟨b, off + i, none⟩ := fun i => by unfold Addr.add; split <;> simp_all
      simp only [ea] at hc
      have hcl : c < 7 := (List.getElem?_eq_some_iff.1 hu).1
      rw [Nat.add_assoc, hc c hcl]; exact hu
    · obtain ⟨i, hi', rfl⟩ := List.mem_map.1 hs'
      exact (hfs i (List.mem_range.1 hi')).2
end

set_option maxRecDepth 100000 in
theorem open_exps {H : Type} {enc : TypeId × Value → H} {W : World} {base base' : Nat} {sp : Nat → Bool} {held : Bool} {v : Value} {d : DataW H} {p : List MemPlace}
    (hv : Value.okWide Tryz.prog W .any base' 30 v) (h : DataW.Trod enc Tryz.prog W base sp held 30 v d p) :
    ∃ a len cap, v = .slice a len cap ∧ ∃ l, EN W (.slice a len cap) l ∧ ∀ s ∈ l, ExpIn s :=
  open_exps_at Tryz.underlying30 Tryz.underlying25 (by kernel_rfl) (by kernel_rfl) Tryz.underlying9 Tryz.underlying22 Tryz.underlying4 Tryz.underlying23 Tryz.underlying23 Tryz.underlying23 Tryz.underlying9 hv h

end Go.Proofs.YthhjdkcnkdffcaaGreat
