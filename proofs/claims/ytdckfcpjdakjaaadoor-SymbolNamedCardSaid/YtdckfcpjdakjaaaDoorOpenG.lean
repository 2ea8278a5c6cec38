/- How a slice of structs of a text, an int, a uint64 and a bool that came in is opened. No program in sight. -/
import Derived.Test.YtdckfcpjdakjaaaDoorOpen
import Derived.Lib.SmallJoins
import Derived.Deep.Slices
import Derived.Deep.Fields
import Derived.ChangeSame
namespace Go.Proofs.YtdckfcpjdakjaaaDoor
set_option linter.unusedSimpArgs false
set_option linter.unusedVariables false
open Go.ChangeShapes Go.WideShapes Go.ChangeAt Go.RowKit Go.Joins Go.Deep

theorem mkS_data (s : ByteArray) : mkS s.data.toList = s := by
  unfold mkS; rfl

/-- A symbol's fields lie in their kinds. -/
def SymIn (sect : Int) (val : Nat) : Prop := (-9223372036854775808 ≤ sect ∧ sect ≤ 9223372036854775807) ∧ val < 18446744073709551616

/-- The value v reads in w as the symbols l, however many. -/
def SN (w : World) (v : Value) (l : List Sym) : Prop :=
  ∃ (a : Option Addr) (cap : Nat), v = .slice a l.length cap ∧ l.length ≤ cap ∧ cap ≤ maxLen ∧
    (l ≠ [] → ∃ g off, a = some ⟨g, off, none⟩ ∧ ∀ k s, l[k]? = some s → w.cell? ⟨g, off + k * 4, none⟩ = some (.string (mkS s.name)) ∧ w.cell? ⟨g, off + k * 4 + 1, none⟩ = some (.int .i64 s.sect) ∧ w.cell? ⟨g, off + k * 4 + 2, none⟩ = some (.int .u64 s.val) ∧ w.cell? ⟨g, off + k * 4 + 3, none⟩ = some (.bool s.weak))

theorem SN.len {w : World} {a : Option Addr} {n cap : Nat} {l : List Sym} (h : SN w (.slice a n cap) l) : l.length = n ∧ n ≤ maxLen := by
  obtain ⟨a', cap', he, h1, h2, _⟩ := h
  cases he; exact ⟨rfl, Nat.le_trans h1 h2⟩

theorem SN.at {w : World} {a : Option Addr} {n cap : Nat} {l : List Sym} (h : SN w (.slice a n cap) l) (hn : 0 < n) :
    ∃ g off, a = some ⟨g, off, none⟩ ∧ ∀ k s, l[k]? = some s → w.cell? ⟨g, off + k * 4, none⟩ = some (.string (mkS s.name)) ∧ w.cell? ⟨g, off + k * 4 + 1, none⟩ = some (.int .i64 s.sect) ∧ w.cell? ⟨g, off + k * 4 + 2, none⟩ = some (.int .u64 s.val) ∧ w.cell? ⟨g, off + k * 4 + 3, none⟩ = some (.bool s.weak) := by
  obtain ⟨a', cap', he, h1, h2, h3⟩ := h
  cases he
  exact h3 (by intro e; rw [e] at hn; exact absurd hn (by simp))

section
variable {H : Type} {enc : TypeId × Value → H} {P : Program} {W : World} {base base' : Nat} {sp : Nat → Bool} {held : Bool}

/-- One symbol, out of a row of cells. -/
theorem sym_of_cells {t : TypeId} {n : Nat} {cs : List Value} {x : DataW H × List MemPlace} {f0 f1 f2 f3 : Field} (hs : P.underlying t = some (.struct #[f0, f1, f2, f3])) (hone : oneCellFields P #[f0, f1, f2, f3] = true) (hC : P.cellsOf t = 4)
    (u0 : P.underlying f0.type = some .string) (u1 : P.underlying f1.type = some (.int .i64)) (u2 : P.underlying f2.type = some (.int .u64)) (u3 : P.underlying f3.type = some .bool)
    (h : DataW.trod enc P W base sp held n t cs = some x) : ∃ s : Sym, cs = s.cells ∧ SymIn s.sect s.val := by
  obtain ⟨ys, m, -, -, hl, hyl, hf⟩ := DataW.trod_struct hs h
  rw [hC] at hl
  match cs, hl with
  | [c0, c1, c2, c3], _ =>
    obtain ⟨o0, k0⟩ := hone_of hone 0 f0 rfl
    obtain ⟨o1, k1⟩ := hone_of hone 1 f1 rfl
    obtain ⟨o2, k2⟩ := hone_of hone 2 f2 rfl
    obtain ⟨o3, k3⟩ := hone_of hone 3 f3 rfl
    have hy : ∀ j, j < 4 → ∃ y, ys[j]? = some y := fun j hj => ⟨_, List.getElem?_eq_getElem (by rw [hyl]; exact hj)⟩
    obtain ⟨y0, e0⟩ := hy 0 (by omega)
    obtain ⟨y1, e1⟩ := hy 1 (by omega)
    obtain ⟨y2, e2⟩ := hy 2 (by omega)
    obtain ⟨y3, e3⟩ := hy 3 (by omega)
    have g0 := hf 0 f0 rfl
    have g1 := hf 1 f1 rfl
    have g2 := hf 2 f2 rfl
    have g3 := hf 3 f3 rfl
    rw [e0, o0, k0] at g0
    rw [e1, o1, k1] at g1
    rw [e2, o2, k2] at g2
    rw [e3, o3, k3] at g3
    cases m with
    | zero => simp [DataW.trod] at g0
    | succ m =>
      obtain ⟨s, d0, -⟩ := DataW.trod_string u0 g0
      obtain ⟨k, d1, -, w1⟩ := DataW.trod_int u1 g1
      obtain ⟨q, d2, -, w2⟩ := DataW.trod_int u2 g2
      obtain ⟨b, d3, -⟩ := DataW.trod_bool u3 g3
      simp at d0 d1 d2 d3
      subst d0 d1 d2 d3
      have b1 := wf_i64 w1
      have b2 := wf_u64 w2
      refine ⟨⟨s.data.toList, k, q.toNat, b⟩, ?_, b1, by show q.toNat < _; omega⟩
      show _ = [Value.string (mkS s.data.toList), Value.int .i64 k, Value.int .u64 (q.toNat : Int), Value.bool b]
      rw [mkS_data, Int.toNat_of_nonneg b2.1]

/-- A slice of symbols. -/
theorem open_syms_at {t e : TypeId} {v : Value} {d : DataW H} {p : List MemPlace} {f0 f1 f2 f3 : Field} (ht : P.underlying t = some (.slice e)) (hs : P.underlying e = some (.struct #[f0, f1, f2, f3])) (hone : oneCellFields P #[f0, f1, f2, f3] = true) (hC : P.cellsOf e = 4)
    (u0 : P.underlying f0.type = some .string) (u1 : P.underlying f1.type = some (.int .i64)) (u2 : P.underlying f2.type = some (.int .u64)) (u3 : P.underlying f3.type = some .bool)
    (hv : Value.okWide P W .any base' t v) (h : DataW.Trod enc P W base sp held t v d p) :
    ∃ a len cap, v = .slice a len cap ∧ ∃ l, SN W (.slice a len cap) l ∧ ∀ s ∈ l, SymIn s.sect s.val := by
  obtain ⟨a, len, cap, rfl⟩ := okWide_slice ht hv
  refine ⟨a, len, cap, rfl, ?_⟩
  obtain ⟨fuel, hf⟩ := h
  rcases open_slice ht hf with ⟨hcs, _⟩ | ⟨x, l, c, m, n, D, Pl, hcs, _, hl, hm, hmm, _, hi⟩
  · simp [Value.cells] at hcs
    obtain ⟨rfl, rfl, rfl⟩ := hcs
    exact ⟨[], ⟨none, 0, rfl, Nat.le_refl _, Nat.zero_le _, fun h => absurd rfl h⟩, by simp⟩
  · simp [Value.cells] at hcs
    obtain ⟨rfl, rfl, rfl⟩ := hcs
    have hlm : len ≤ m := by rw [hmm]; split <;> omega
    rw [hC] at hi
    have hex : ∀ i, ∃ s : Sym, i < len → ((∀ j, j < 4 → W.cell? (x.add (i * 4 + j)) = s.cells[j]?) ∧ SymIn s.sect s.val) := by
      intro i
      by_cases hlt : i < len
      · obtain ⟨cs', hc, htr⟩ := hi i (by omega)
        obtain ⟨s, rfl, hin⟩ := sym_of_cells hs hone hC u0 u1 u2 u3 htr
        obtain ⟨-, -, hcell⟩ := World.cells?_some hc
        exact ⟨s, fun _ => ⟨fun j hj => by rw [← Go.Deep.add_add]; exact hcell j hj, hin⟩⟩
      · exact ⟨Sym.zero, fun h => absurd h hlt⟩
    obtain ⟨f, hfs⟩ := Classical.axiomOfChoice hex
    have hget : ∀ k s, ((List.range len).map f)[k]? = some s → k < len ∧ s = f k := by
      intro k s hk
      have hk' : k < len := by have := (List.getElem?_eq_some_iff.1 hk).1; simpa using this
      rw [List.getElem?_map, List.getElem?_range hk'] at hk
      simp at hk
      exact ⟨hk', hk.symm⟩
    refine ⟨(List.range len).map f, ⟨some x, cap, by simp, by simpa using hl, hm, fun hne => ?_⟩, fun s hs' => ?_⟩
    · have hpos : 0 < len := by
        have := List.length_pos_iff.2 hne
        simpa using this
      obtain ⟨b, off, spot⟩ := x
      have h0 := (hfs 0 hpos).1 0 (by omega)
      have h0' : W.cell? (Addr.add ⟨b, off, spot⟩ 0) = some (.string (mkS (f 0).name)) := h0
      have hspot : spot = none := by simpa [Addr.add] using World.cell?_spot h0'
      subst hspot
      refine ⟨b, off, rfl, fun k s hk => ?_⟩
      obtain ⟨hk', rfl⟩ := hget k s hk
      have hc := (hfs k hk').1
      have ea : ∀ i, (⟨b, off, none⟩ : Addr).add i = ⟨b, off + i, none⟩ := fun i => by unfold Addr.add; split <;> simp_all
      simp only [ea] at hc
      exact ⟨hc 0 (by omega), hc 1 (by omega), hc 2 (by omega), hc 3 (by omega)⟩
    · obtain ⟨i, hi', rfl⟩ := List.mem_map.1 hs'
      exact (hfs i (List.mem_range.1 hi')).2
end


theorem SN.below {w w' : World} {v : Value} {l : List Sym} (h : SN w v l) (hb : Below w.heap.size w w') : SN w' v l := by
  obtain ⟨a, cap, rfl, h1, h2, h3⟩ := h
  refine ⟨a, cap, rfl, h1, h2, fun hne => ?_⟩
  obtain ⟨g, off, rfl, hc⟩ := h3 hne
  have hk : ∀ (p : Addr) u, w.cell? p = some u → w'.cell? p = some u := fun p u hp => (hb.cell (World.block_lt_of_cell? w p hp)).trans hp
  exact ⟨g, off, rfl, fun k s hs => ⟨hk _ _ (hc k s hs).1, hk _ _ (hc k s hs).2.1, hk _ _ (hc k s hs).2.2.1, hk _ _ (hc k s hs).2.2.2⟩⟩

def symsCells (l : List Sym) : List Value := l.flatMap Sym.cells
theorem symsCells_snoc (l : List Sym) (s : Sym) : symsCells (l ++ [s]) = symsCells l ++ s.cells := by simp [symsCells]

theorem symsCells_length (l : List Sym) : (symsCells l).length = l.length * 4 := by
  induction l with
  | nil => rfl
  | cons s l ih => simp only [symsCells, List.flatMap_cons, List.length_append] at ih ⊢; rw [ih]; simp [Sym.cells]; omega

theorem symsCells_get : ∀ (l : List Sym) (k : Nat) (s : Sym), l[k]? = some s → ∀ i, i < 4 → (symsCells l)[k * 4 + i]? = s.cells[i]?
  | [], k, s, h, _, _ => by simp at h
  | x :: l, 0, s, h, i, hi => by
    simp at h; subst h
    simp only [symsCells, List.flatMap_cons]
    rw [List.getElem?_append_left (by simp [Sym.cells]; omega)]
    simp
  | x :: l, k + 1, s, h, i, hi => by
    simp only [symsCells, List.flatMap_cons]
    rw [List.getElem?_append_right (by simp [Sym.cells]; omega), show (k + 1) * 4 + i - x.cells.length = k * 4 + i by simp [Sym.cells]; omega]
    exact symsCells_get l k s (by simpa using h) i hi

/-- A slice of symbols of the call's own reads as these. -/
theorem SN.of_owns {w : World} {base : Nat} {e : TypeId} {v : Value} {l : List Sym} (h : w.ownsRow base e 4 v l.length (symsCells l)) : SN w v l := by
  have h0 := h
  rcases h.2 with ⟨rfl, hn⟩ | ⟨g, cap, cur, rfl, hb, hg, hnc, hcm, rest⟩
  · have : l = [] := List.eq_nil_of_length_eq_zero hn
    subst this
    exact ⟨none, 0, rfl, Nat.le_refl _, Nat.zero_le _, fun h => absurd rfl h⟩
  · refine ⟨_, cap, rfl, hnc, hcm, fun hne => ⟨g, 0, rfl, fun k s hs => ?_⟩⟩
    have hc := fun i (hi : i < 4) => h0.cells (g := g) rfl (k * 4 + i) ((s.cells[i]?).getD undef) (by rw [symsCells_get l k s hs i hi, List.getElem?_eq_getElem (by simp [Sym.cells]; omega)]; rfl)
    have ea : ∀ i, (⟨g, 0, none⟩ : Addr).add i = ⟨g, 0 + i, none⟩ := fun i => by unfold Addr.add; split <;> simp_all
    simp only [ea] at hc
    exact ⟨hc 0 (by omega), hc 1 (by omega), hc 2 (by omega), hc 3 (by omega)⟩

end Go.Proofs.YtdckfcpjdakjaaaDoor
