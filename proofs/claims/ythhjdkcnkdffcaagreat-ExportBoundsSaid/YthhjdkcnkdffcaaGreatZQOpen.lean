/- How arguments that came in are opened, in these proofs' words. -/
import Derived.Test.YthhjdkcnkdffcaaGreatZPlain
import Derived.ProofKit
import Derived.OpenShut
import Derived.ShutString
import Derived.ChangeOld
import Derived.Test.YthhjdkcnkdffcaaGreatZQRefC
import Derived.Lib.SmallJoins
import Derived.Deep.Slices
import Derived.Deep.Fields
import Derived.ChangeSame
import Derived.Test.YthhjdkcnkdffcaaGreatZQMake
import Derived.Test.YthhjdkcnkdffcaaGreatZQMakeM
namespace Go.Proofs.YthhjdkcnkdffcaaGreat.Nl
set_option linter.unusedSimpArgs false
set_option linter.unusedVariables false
open Go.ChangeShapes Go.WideShapes Go.ChangeAt Go.RowKit

theorem wf_u8 {n : Int} (h : (Lit.int .u8 n).wf = true) : 0 ≤ n ∧ n ≤ 255 := by simpa [Lit.wf, IntKind.min, IntKind.max, IntKind.signed, IntKind.bits] using h
theorem wf_u64 {n : Int} (h : (Lit.int .u64 n).wf = true) : 0 ≤ n ∧ n ≤ 18446744073709551615 := by simpa [Lit.wf, IntKind.min, IntKind.max, IntKind.signed, IntKind.bits] using h
theorem wf_i64 {n : Int} (h : (Lit.int .i64 n).wf = true) : -9223372036854775808 ≤ n ∧ n ≤ 9223372036854775807 := by simpa [Lit.wf, IntKind.min, IntKind.max, IntKind.signed, IntKind.bits] using h

theorem byte_of {n : Int} (h : (Lit.int .u8 n).wf = true) : ∃ x : UInt8, n = (x.toNat : Int) := by
  have hb := wf_u8 h
  exact ⟨UInt8.ofNat n.toNat, by simp; omega⟩

/-- A list of cells that are bytes. -/
theorem u8s_of : ∀ L : List Value, (∀ v ∈ L, ∃ x : UInt8, v = .int .u8 (x.toNat : Int)) → ∃ xs : List UInt8, L = u8s xs
  | [], _ => ⟨[], rfl⟩
  | v :: r, h => by
    obtain ⟨x, rfl⟩ := h v (by simp)
    obtain ⟨xs, rfl⟩ := u8s_of r (fun v hv => h v (by simp [hv]))
    exact ⟨x :: xs, rfl⟩

section
variable {H : Type} {enc : TypeId × Value → H} {P : Program} {W : World} {base base' : Nat} {sp : Nat → Bool} {held : Bool}

/-- A []byte. -/
theorem open_bs {t e : TypeId} {v : Value} {d : DataW H} {p : List MemPlace} (ht : P.underlying t = some (.slice e)) (he : P.underlying e = some (.int .u8)) (hc : P.cellsOf e = 1)
    (hv : Value.okWide P W .any base' t v) (h : DataW.Trod enc P W base sp held t v d p) :
    ∃ a len cap, v = .slice a len cap ∧ (len ≤ 140737488355328 → ∃ l, BS W (.slice a len cap) l) := by
  obtain ⟨a, len, cap, rfl⟩ := okWide_slice ht hv
  refine ⟨a, len, cap, rfl, fun hbig => ?_⟩
  obtain ⟨fuel, hf⟩ := h
  rcases open_ints ht he hc hf with ⟨hcs, _⟩ | ⟨x, l, c, zs, hcs, _, hl, hm, hz, _, hcell, hwz⟩
  · simp [Value.cells] at hcs
    obtain ⟨rfl, rfl, rfl⟩ := hcs
    exact ⟨[], none, 0, rfl, Nat.le_refl _, ⟨Nat.zero_le _, by simp⟩, fun h => absurd rfl h⟩
  · simp [Value.cells] at hcs
    obtain ⟨rfl, rfl, rfl⟩ := hcs
    have hz' : len ≤ zs.length := by rw [hz]; split <;> omega
    obtain ⟨xs, hxs⟩ := u8s_of ((zs.take len).map (Value.int .u8)) (fun v hv => by
      obtain ⟨n, hn, rfl⟩ := List.mem_map.1 hv
      obtain ⟨x, rfl⟩ := byte_of (hwz n (List.mem_of_mem_take hn))
      exact ⟨x, rfl⟩)
    have hlen : xs.length = len := by
      have := congrArg List.length hxs
      simp [u8s] at this; omega
    refine ⟨xs, some x, cap, by rw [hlen], by omega, ⟨hm, by omega⟩, fun hne => ?_⟩
    have hpos : 0 < len := by rw [← hlen]; exact List.length_pos_iff.2 hne
    obtain ⟨b, off, spot⟩ := x
    have h0 := hcell 0 (by omega)
    have hspot : spot = none := by simpa [Addr.add] using World.cell?_spot h0
    subst hspot
    refine ⟨b, off, rfl, fun i y hy => ?_⟩
    have hi : i < len := by have := (List.getElem?_eq_some_iff.1 hy).1; omega
    have hci := hcell i (by omega)
    have ea : (⟨b, off, none⟩ : Addr).add i = ⟨b, off + i, none⟩ := by unfold Addr.add; split <;> simp_all
    rw [ea] at hci
    rw [hci]
    have e1 : ((zs.take len).map (Value.int .u8))[i]? = some (Value.int .u8 (zs.getD i 0)) := by
      rw [List.getElem?_map, List.getElem?_take_of_lt hi, List.getElem?_eq_getElem (by omega)]
      simp [List.getElem?_eq_getElem (show i < zs.length by omega)]
    rw [hxs] at e1
    simp [u8s, hy] at e1
    simp [e1]

/-- A [n]byte by value. -/
theorem open_arr {t e : TypeId} {n : Nat} {v : Value} {d : DataW H} {p : List MemPlace} (ht : P.underlying t = some (.array n e)) (he : P.underlying e = some (.int .u8)) (hc : P.cellsOf e = 1) (hC : P.cellsOf t = n)
    (hv : Value.okWide P W .any base' t v) (h : DataW.Trod enc P W base sp held t v d p) : ∃ xs : List UInt8, xs.length = n ∧ v = .agg (u8s xs).toArray := by
  unfold Value.okWide at hv
  rw [ht] at hv
  obtain ⟨cs, rfl, hsz, -⟩ := hv
  obtain ⟨fuel, hf⟩ := h
  obtain ⟨ys, m, -, -, hl, hyl, hall⟩ := DataW.trod_array ht hf
  have hcl : cs.toList.length = n := by simpa using hsz.trans hC
  obtain ⟨xs, hxs⟩ := u8s_of cs.toList (fun v hv => by
    obtain ⟨i, hi, rfl⟩ := List.mem_iff_getElem.1 hv
    have h1 := hall i (by omega)
    rw [hc, Nat.mul_one] at h1
    have e1 : ((Value.agg cs).cells.toList.drop i).take 1 = [cs.toList[i]] := by
      show (cs.toList.drop i).take 1 = _
      rw [List.take_one, List.head?_drop, List.getElem?_eq_getElem hi]; rfl
    rw [e1, List.getElem?_eq_getElem (by omega)] at h1
    obtain ⟨a, e0, -, wa⟩ := DataW.trod_int he h1
    obtain ⟨x, rfl⟩ := byte_of wa
    simp at e0
    exact ⟨x, e0⟩)
  refine ⟨xs, ?_, ?_⟩
  · have := congrArg List.length hxs
    simp [u8s] at this; simp at hcl; omega
  · rw [← hxs]
end

end Go.Proofs.YthhjdkcnkdffcaaGreat.Nl

namespace Go.Proofs.YthhjdkcnkdffcaaGreat.Nl
set_option linter.unusedSimpArgs false
set_option linter.unusedVariables false
open Go.ChangeShapes Go.WideShapes Go.ChangeAt Go.RowKit Go.Joins Go.Deep

/-- A symbol's fields lie in their kinds. -/
def SymIn (sect : Int) (val : Nat) : Prop := (-9223372036854775808 ≤ sect ∧ sect ≤ 9223372036854775807) ∧ val < 18446744073709551616

section
variable {H : Type} {enc : TypeId × Value → H} {P : Program} {W : World} {base base' : Nat} {sp : Nat → Bool} {held : Bool}

/-- A symbol. -/
theorem open_sym {t : TypeId} {v : Value} {d : DataW H} {p : List MemPlace} {f0 f1 f2 f3 : Field} (hs : P.underlying t = some (.struct #[f0, f1, f2, f3])) (hone : oneCellFields P #[f0, f1, f2, f3] = true) (hC : P.cellsOf t = 4)
    (u0 : P.underlying f0.type = some .string) (u1 : P.underlying f1.type = some (.int .i64)) (u2 : P.underlying f2.type = some (.int .u64)) (u3 : P.underlying f3.type = some .bool)
    (hv : Value.okWide P W .any base' t v) (h : DataW.Trod enc P W base sp held t v d p) :
    ∃ (nm : List UInt8) (sect : Int) (val : Nat) (weak : Bool), v = .agg #[.string (mkS nm), .int .i64 sect, .int .u64 val, .bool weak] ∧ SymIn sect val := by
  obtain ⟨v0, v1, v2, v3, y0, y1, y2, y3, n, rfl, -, -, h0, h1, h2, h3⟩ := open_agg4 hs hone hC hv h
  cases n with
  | zero => simp [DataW.trod] at h0
  | succ n =>
    obtain ⟨s, e0, -⟩ := DataW.trod_string u0 h0
    obtain ⟨k, e1, -, w1⟩ := DataW.trod_int u1 h1
    obtain ⟨m, e2, -, w2⟩ := DataW.trod_int u2 h2
    obtain ⟨b, e3, -⟩ := DataW.trod_bool u3 h3
    simp only [List.cons.injEq, and_true] at e0 e1 e2 e3
    subst e0 e1 e2 e3
    have b1 := wf_i64 w1
    have b2 := wf_u64 w2
    refine ⟨s.data.toList, k, m.toNat, b, ?_, b1, by omega⟩
    rw [mkS_data, Int.toNat_of_nonneg b2.1]
end

end Go.Proofs.YthhjdkcnkdffcaaGreat.Nl

namespace Go.Proofs.YthhjdkcnkdffcaaGreat.Nl
set_option linter.unusedSimpArgs false
set_option linter.unusedVariables false
open Go.ChangeShapes Go.WideShapes Go.ChangeAt Go.RowKit Go.Joins Go.Deep

/-- The value v reads in w as the symbols l, however many. -/
def SN (w : World) (v : Value) (l : List Sym) : Prop :=
  ∃ (a : Option Addr) (cap : Nat), v = .slice a l.length cap ∧ l.length ≤ cap ∧ cap ≤ maxLen ∧
    (l ≠ [] → ∃ g off, a = some ⟨g, off, none⟩ ∧ ∀ k s, l[k]? = some s → w.cell? ⟨g, off + k * 4, none⟩ = some (.string (mkS s.name)) ∧ w.cell? ⟨g, off + k * 4 + 1, none⟩ = some (.int .i64 s.sect) ∧ w.cell? ⟨g, off + k * 4 + 2, none⟩ = some (.int .u64 s.val) ∧ w.cell? ⟨g, off + k * 4 + 3, none⟩ = some (.bool s.weak))

theorem SN.ss {w : World} {v : Value} {l : List Sym} (h : SN w v l) (hl : l.length ≤ 140737488355328) : SS w v l := by
  obtain ⟨a, cap, rfl, h1, h2, h3⟩ := h
  exact ⟨a, cap, rfl, h1, hl, h3⟩

theorem SN.len {w : World} {a : Option Addr} {n cap : Nat} {l : List Sym} (h : SN w (.slice a n cap) l) : l.length = n ∧ n ≤ maxLen := by
  obtain ⟨a', cap', he, h1, h2, _⟩ := h
  cases he; exact ⟨rfl, Nat.le_trans h1 h2⟩

theorem SN.at {w : World} {a : Option Addr} {n cap : Nat} {l : List Sym} (h : SN w (.slice a n cap) l) (hn : 0 < n) :
    ∃ g off, a = some ⟨g, off, none⟩ ∧ ∀ k s, l[k]? = some s → w.cell? ⟨g, off + k * 4, none⟩ = some (.string (mkS s.name)) ∧ w.cell? ⟨g, off + k * 4 + 1, none⟩ = some (.int .i64 s.sect) ∧ w.cell? ⟨g, off + k * 4 + 2, none⟩ = some (.int .u64 s.val) ∧ w.cell? ⟨g, off + k * 4 + 3, none⟩ = some (.bool s.weak) := by
  obtain ⟨a', cap', he, h1, h2, h3⟩ := h
  cases he
  exact h3 (by intro e; rw [e] at hn; exact absurd hn (by simp))

section
variable {H : Type} {enc : TypeId × Value → H} {P : Program} {W : World} {base base' : Nat} {sp : Nat → Bool} {held : Bool}

/-- One symbol, out of a row of cells. -/
theorem sym_of_cells {t : TypeId} {n : Nat} {cs : List Value} {x : DataW H × List MemPlace} {f0 f1 f2 f3 : Field} (hs : P.underlying t = some (.struct #[f0, f1, f2, f3])) (hone : oneCellFields P #[f0, f1, f2, f3] = true) (hC : P.cellsOf t = 4)
    (u0 : P.underlying f0.type = some .string) (u1 : P.underlying f1.type = some (.int .i64)) (u2 : P.underlying f2.type = some (.int .u64)) (u3 : P.underlying f3.type = some .bool)
    (h : DataW.trod enc P W base sp held n t cs = some x) : ∃ s : Sym, cs = s.cells ∧ SymIn s.sect s.val := by
  obtain ⟨ys, m, -, -, hl, hyl, hf⟩ := DataW.trod_struct hs h
  rw [hC] at hl
  match cs, hl with
  | [c0, c1, c2, c3], _ =>
    obtain ⟨o0, k0⟩ := hone_of hone 0 f0 rfl
    obtain ⟨o1, k1⟩ := hone_of hone 1 f1 rfl
    obtain ⟨o2, k2⟩ := hone_of hone 2 f2 rfl
    obtain ⟨o3, k3⟩ := hone_of hone 3 f3 rfl
    have hy : ∀ j, j < 4 → ∃ y, ys[j]? = some y := fun j hj => ⟨_, List.getElem?_eq_getElem (by rw [hyl]; exact hj)⟩
    obtain ⟨y0, e0⟩ := hy 0 (by omega)
    obtain ⟨y1, e1⟩ := hy 1 (by omega)
    obtain ⟨y2, e2⟩ := hy 2 (by omega)
    obtain ⟨y3, e3⟩ := hy 3 (by omega)
    have g0 := hf 0 f0 rfl
    have g1 := hf 1 f1 rfl
    have g2 := hf 2 f2 rfl
    have g3 := hf 3 f3 rfl
    rw [e0, o0, k0] at g0
    rw [e1, o1, k1] at g1
    rw [e2, o2, k2] at g2
    rw [e3, o3, k3] at g3
    cases m with
    | zero => simp [DataW.trod] at g0
    | succ m =>
      obtain ⟨s, d0, -⟩ := DataW.trod_string u0 g0
      obtain ⟨k, d1, -, w1⟩ := DataW.trod_int u1 g1
      obtain ⟨q, d2, -, w2⟩ := DataW.trod_int u2 g2
      obtain ⟨b, d3, -⟩ := DataW.trod_bool u3 g3
      simp at d0 d1 d2 d3
      subst d0 d1 d2 d3
      have b1 := wf_i64 w1
      have b2 := wf_u64 w2
      refine ⟨⟨s.data.toList, k, q.toNat, b⟩, ?_, b1, by show q.toNat < _; omega⟩
      show _ = [Value.string (mkS s.data.toList), Value.int .i64 k, Value.int .u64 (q.toNat : Int), Value.bool b]
      rw [mkS_data, Int.toNat_of_nonneg b2.1]

/-- A slice of symbols. -/
theorem open_syms_at {t e : TypeId} {v : Value} {d : DataW H} {p : List MemPlace} {f0 f1 f2 f3 : Field} (ht : P.underlying t = some (.slice e)) (hs : P.underlying e = some (.struct #[f0, f1, f2, f3])) (hone : oneCellFields P #[f0, f1, f2, f3] = true) (hC : P.cellsOf e = 4)
    (u0 : P.underlying f0.type = some .string) (u1 : P.underlying f1.type = some (.int .i64)) (u2 : P.underlying f2.type = some (.int .u64)) (u3 : P.underlying f3.type = some .bool)
    (hv : Value.okWide P W .any base' t v) (h : DataW.Trod enc P W base sp held t v d p) :
    ∃ a len cap, v = .slice a len cap ∧ ∃ l, SN W (.slice a len cap) l ∧ ∀ s ∈ l, SymIn s.sect s.val := by
  obtain ⟨a, len, cap, rfl⟩ := okWide_slice ht hv
  refine ⟨a, len, cap, rfl, ?_⟩
  obtain ⟨fuel, hf⟩ := h
  rcases open_slice ht hf with ⟨hcs, _⟩ | ⟨x, l, c, m, n, D, Pl, hcs, _, hl, hm, hmm, _, hi⟩
  · simp [Value.cells] at hcs
    obtain ⟨rfl, rfl, rfl⟩ := hcs
    exact ⟨[], ⟨none, 0, rfl, Nat.le_refl _, Nat.zero_le _, fun h => absurd rfl h⟩, by simp⟩
  · simp [Value.cells] at hcs
    obtain ⟨rfl, rfl, rfl⟩ := hcs
    have hlm : len ≤ m := by rw [hmm]; split <;> omega
    rw [hC] at hi
    have hex : ∀ i, ∃ s : Sym, i < len → ((∀ j, j < 4 → W.cell? (x.add (i * 4 + j)) = s.cells[j]?) ∧ SymIn s.sect s.val) := by
      intro i
      by_cases hlt : i < len
      · obtain ⟨cs', hc, htr⟩ := hi i (by omega)
        obtain ⟨s, rfl, hin⟩ := sym_of_cells hs hone hC u0 u1 u2 u3 htr
        obtain ⟨-, -, hcell⟩ := World.cells?_some hc
        exact ⟨s, fun _ => ⟨fun j hj => by rw [← Go.Deep.add_add]; exact hcell j hj, hin⟩⟩
      · exact ⟨Sym.zero, fun h => absurd h hlt⟩
    obtain ⟨f, hfs⟩ := Classical.axiomOfChoice hex
    have hget : ∀ k s, ((List.range len).map f)[k]? = some s → k < len ∧ s = f k := by
      intro k s hk
      have hk' : k < len := by have := (List.getElem?_eq_some_iff.1 hk).1; simpa using this
      rw [List.getElem?_map, List.getElem?_range hk'] at hk
      simp at hk
      exact ⟨hk', hk.symm⟩
    refine ⟨(List.range len).map f, ⟨some x, cap, by simp, by simpa using hl, hm, fun hne => ?_⟩, fun s hs' => ?_⟩
    · have hpos : 0 < len := by
        have := List.length_pos_iff.2 hne
        simpa using this
      obtain ⟨b, off, spot⟩ := x
      have h0 := (hfs 0 hpos).1 0 (by omega)
      have h0' : W.cell? (Addr.add ⟨b, off, spot⟩ 0) = some (.string (mkS (f 0).name)) := h0
      have hspot : spot = none := by simpa [Addr.add] using World.cell?_spot h0'
      subst hspot
      refine ⟨b, off, rfl, fun k s hk => ?_⟩
      obtain ⟨hk', rfl⟩ := hget k s hk
      have hc := (hfs k hk').1
      have ea : ∀ i, (⟨b, off, none⟩ : Addr).add i = ⟨b, off + i, none⟩ := fun i => by unfold Addr.add; split <;> simp_all
      simp only [ea] at hc
      exact ⟨hc 0 (by omega), hc 1 (by omega), hc 2 (by omega), hc 3 (by omega)⟩
    · obtain ⟨i, hi', rfl⟩ := List.mem_map.1 hs'
      exact (hfs i (List.mem_range.1 hi')).2
end

set_option maxRecDepth 20000 in
theorem open_syms {H : Type} {enc : TypeId × Value → H} {W : World} {base base' : Nat} {sp : Nat → Bool} {held : Bool} {v : Value} {d : DataW H} {p : List MemPlace}
    (hv : Value.okWide Tryz.prog W .any base' 56 v) (h : DataW.Trod enc Tryz.prog W base sp held 56 v d p) :
    ∃ a len cap, v = .slice a len cap ∧ ∃ l, SN W (.slice a len cap) l ∧ ∀ s ∈ l, SymIn s.sect s.val :=
  open_syms_at Tryz.underlying56 Tryz.underlying62 (by kernel_rfl) (by kernel_rfl) Tryz.underlying9 Tryz.underlying3 Tryz.underlying23 Tryz.underlying4 hv h

/-! ### few -/
def fewM (l : List Sym) (most : Nat) : Bool := l.all (fun s => decide (s.name.length ≤ 400)) && decide (l.length ≤ most)

end Go.Proofs.YthhjdkcnkdffcaaGreat.Nl

namespace Go.Proofs.YthhjdkcnkdffcaaGreat.Nl
set_option linter.unusedSimpArgs false
set_option linter.unusedVariables false
open Go.RowKit Go.Maps

theorem makeM_ok {l : List Sym} {T N : List UInt8} (h : makeM l = (T, N, 0)) : l.any (fun s => !mayM s) = false ∧ l.length ≤ 4096 ∧ N.length ≤ 1048576 ∧ (l.map Sym.name).Nodup ∧ T = (tabN l).1 ∧ N = (tabN l).2 := by
  unfold makeM at h
  cases h1 : l.any (fun s => !mayM s) with
  | true => rw [h1, if_pos rfl] at h; cases h
  | false =>
    rw [h1, if_neg (by simp)] at h
    by_cases h2 : 4096 < l.length ∨ 1048576 < (tabN l).2.length
    · rw [if_pos h2] at h; cases h
    · rw [if_neg h2] at h
      cases h3 : twiceM l with
      | true => rw [h3, if_pos rfl] at h; cases h
      | false =>
        rw [h3, if_neg (by simp)] at h
        cases h
        refine ⟨rfl, by omega, by omega, ?_, rfl, rfl⟩
        unfold twiceM at h3
        simpa using h3

theorem makeM_err {l : List Sym} {T N : List UInt8} {e : Nat} (h : makeM l = (T, N, e)) (he : e ≠ 0) : T = [] ∧ N = [] := by
  unfold makeM at h
  cases h1 : l.any (fun s => !mayM s) with
  | true => rw [h1, if_pos rfl] at h; cases h; exact ⟨rfl, rfl⟩
  | false =>
    rw [h1, if_neg (by simp)] at h
    by_cases h2 : 4096 < l.length ∨ 1048576 < (tabN l).2.length
    · rw [if_pos h2] at h; cases h; exact ⟨rfl, rfl⟩
    · rw [if_neg h2] at h
      cases h3 : twiceM l with
      | true => rw [h3, if_pos rfl] at h; cases h; exact ⟨rfl, rfl⟩
      | false => rw [h3, if_neg (by simp)] at h; cases h; exact absurd rfl he

theorem makeM_told {l : List Sym} {T N : List UInt8} (h : makeM l = (T, N, 0)) (hv : ∀ s ∈ l, s.val < 2 ^ 64) : tableM T N 255 = (l, 0) := by
  obtain ⟨h1, h2, h3, h4, rfl, rfl⟩ := makeM_ok h
  refine tableM_made l hv h h1 h2 (by omega) h4 255 (fun s hs => ?_)
  have : mayM s = true := by
    cases hm : mayM s with
    | true => rfl
    | false =>
      have : l.any (fun s => !mayM s) = true := List.any_eq_true.2 ⟨s, hs, by simp [hm]⟩
      rw [h1] at this; cases this
  exact .inl (mayM_inv this).2.2

theorem makeM_len {l : List Sym} {T N : List UInt8} {e : Nat} (h : makeM l = (T, N, e)) (hl : l.length ≤ 5000) : T.length ≤ 80000 ∧ N.length ≤ 1048576 := by
  by_cases he : e = 0
  · subst he
    obtain ⟨h1, h2, h3, h4, rfl, rfl⟩ := makeM_ok h
    rw [tabN_len1]
    exact ⟨by omega, h3⟩
  · obtain ⟨rfl, rfl⟩ := makeM_err h he
    exact ⟨by simp, by simp⟩

end Go.Proofs.YthhjdkcnkdffcaaGreat.Nl
