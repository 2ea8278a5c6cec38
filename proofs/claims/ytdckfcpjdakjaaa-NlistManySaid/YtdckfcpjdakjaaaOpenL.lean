/- How a slice of symbols that came in is opened. -/
import Derived.Test.YtdckfcpjdakjaaaOpenS
import Derived.Deep.Slices
import Derived.Deep.Fields
import Derived.ChangeSame
namespace Go.Proofs.Ytdckfcpjdakjaaa
set_option linter.unusedSimpArgs false
set_option linter.unusedVariables false
open Go.ChangeShapes Go.WideShapes Go.ChangeAt Go.RowKit Go.Joins Go.Deep

/-- The value v reads in w as the symbols l, however many. -/
def SN (w : World) (v : Value) (l : List Sym) : Prop :=
  ∃ (a : Option Addr) (cap : Nat), v = .slice a l.length cap ∧ l.length ≤ cap ∧ cap ≤ maxLen ∧
    (l ≠ [] → ∃ g off, a = some ⟨g, off, none⟩ ∧ ∀ k s, l[k]? = some s → w.cell? ⟨g, off + k * 4, none⟩ = some (.string (mkS s.name)) ∧ w.cell? ⟨g, off + k * 4 + 1, none⟩ = some (.int .i64 s.sect) ∧ w.cell? ⟨g, off + k * 4 + 2, none⟩ = some (.int .u64 s.val) ∧ w.cell? ⟨g, off + k * 4 + 3, none⟩ = some (.bool s.weak))

theorem SN.ss {w : World} {v : Value} {l : List Sym} (h : SN w v l) (hl : l.length ≤ 140737488355328) : SS w v l := by
  obtain ⟨a, cap, rfl, h1, h2, h3⟩ := h
  exact ⟨a, cap, rfl, h1, hl, h3⟩

theorem SN.len {w : World} {a : Option Addr} {n cap : Nat} {l : List Sym} (h : SN w (.slice a n cap) l) : l.length = n ∧ n ≤ maxLen := by
  obtain ⟨a', cap', he, h1, h2, _⟩ := h
  cases he; exact ⟨rfl, Nat.le_trans h1 h2⟩

theorem SN.at {w : World} {a : Option Addr} {n cap : Nat} {l : List Sym} (h : SN w (.slice a n cap) l) (hn : 0 < n) :
    ∃ g off, a = some ⟨g, off, none⟩ ∧ ∀ k s, l[k]? = some s → w.cell? ⟨g, off + k * 4, none⟩ = some (.string (mkS s.name)) ∧ w.cell? ⟨g, off + k * 4 + 1, none⟩ = some (.int .i64 s.sect) ∧ w.cell? ⟨g, off + k * 4 + 2, none⟩ = some (.int .u64 s.val) ∧ w.cell? ⟨g, off + k * 4 + 3, none⟩ = some (.bool s.weak) := by
  obtain ⟨a', cap', he, h1, h2, h3⟩ := h
  cases he
  exact h3 (by intro e; rw [e] at hn; exact absurd hn (by simp))

section
variable {H : Type} {enc : TypeId × Value → H} {P : Program} {W : World} {base base' : Nat} {sp : Nat → Bool} {held : Bool}

/-- One symbol, out of a row of cells. -/
theorem sym_of_cells {t : TypeId} {n : Nat} {cs : List Value} {x : DataW H × List MemPlace} {f0 f1 f2 f3 : Field} (hs : P.underlying t = some (.struct #[f0, f1, f2, f3])) (hone : oneCellFields P #[f0, f1, f2, f3] = true) (hC : P.cellsOf t = 4)
    (u0 : P.underlying f0.type = some .string) (u1 : P.underlying f1.type = some (.int .i64)) (u2 : P.underlying f2.type = some (.int .u64)) (u3 : P.underlying f3.type = some .bool)
    (h : DataW.trod enc P W base sp held n t cs = some x) : ∃ s : Sym, cs = s.cells ∧ SymIn s.sect s.val := by
  obtain ⟨ys, m, -, -, hl, hyl, hf⟩ := DataW.trod_struct hs h
  rw [hC] at hl
  match cs, hl with
  | [c0, c1, c2, c3], _ =>
    obtain ⟨o0, k0⟩ := hone_of hone 0 f0 rfl
    obtain ⟨o1, k1⟩ := hone_of hone 1 f1 rfl
    obtain ⟨o2, k2⟩ := hone_of hone 2 f2 rfl
    obtain ⟨o3, k3⟩ := hone_of hone 3 f3 rfl
    have hy : ∀ j, j < 4 → ∃ y, ys[j]? = some y := fun j hj => ⟨_, List.getElem?_eq_getElem (by rw [hyl]; exact hj)⟩
    obtain ⟨y0, e0⟩ := hy 0 (by omega)
    obtain ⟨y1, e1⟩ := hy 1 (by omega)
    obtain ⟨y2, e2⟩ := hy 2 (by omega)
    obtain ⟨y3, e3⟩ := hy 3 (by omega)
    have g0 := hf 0 f0 rfl
    have g1 := hf 1 f1 rfl
    have g2 := hf 2 f2 rfl
    have g3 := hf 3 f3 rfl
    rw [e0, o0, k0] at g0
    rw [e1, o1, k1] at g1
    rw [e2, o2, k2] at g2
    rw [e3, o3, k3] at g3
    cases m with
    | zero => simp [DataW.trod] at g0
    | succ m =>
      obtain ⟨s, d0, -⟩ := DataW.trod_string u0 g0
      obtain ⟨k, d1, -, w1⟩ := DataW.trod_int u1 g1
      obtain ⟨q, d2, -, w2⟩ := DataW.trod_int u2 g2
      obtain ⟨b, d3, -⟩ := DataW.trod_bool u3 g3
      simp at d0 d1 d2 d3
      subst d0 d1 d2 d3
      have b1 := wf_i64 w1
      have b2 := wf_u64 w2
      refine ⟨⟨s.data.toList, k, q.toNat, b⟩, ?_, b1, by show q.toNat < _; omega⟩
      show _ = [Value.string (mkS s.data.toList), Value.int .i64 k, Value.int .u64 (q.toNat : Int), Value.bool b]
      rw [mkS_data, Int.toNat_of_nonneg b2.1]

/-- A slice of symbols. -/
theorem open_syms_at {t e : TypeId} {v : Value} {d : DataW H} {p : List MemPlace} {f0 f1 f2 f3 : Field} (ht : P.underlying t = some (.slice e)) (hs : P.underlying e = some (.struct #[f0, f1, f2, f3])) (hone : oneCellFields P #[f0, f1, f2, f3] = true) (hC : P.cellsOf e = 4)
    (u0 : P.underlying f0.type = some .string) (u1 : P.underlying f1.type = some (.int .i64)) (u2 : P.underlying f2.type = some (.int .u64)) (u3 : P.underlying f3.type = some .bool)
    (hv : Value.okWide P W .any base' t v) (h : DataW.Trod enc P W base sp held t v d p) :
    ∃ a len cap, v = .slice a len cap ∧ ∃ l, SN W (.slice a len cap) l ∧ ∀ s ∈ l, SymIn s.sect s.val := by
  obtain ⟨a, len, cap, rfl⟩ := okWide_slice ht hv
  refine ⟨a, len, cap, rfl, ?_⟩
  obtain ⟨fuel, hf⟩ := h
  rcases open_slice ht hf with ⟨hcs, _⟩ | ⟨x, l, c, m, n, D, Pl, hcs, _, hl, hm, hmm, _, hi⟩
  · simp [Value.cells] at hcs
    obtain ⟨rfl, rfl, rfl⟩ := hcs
    exact ⟨[], ⟨none, 0, rfl, Nat.le_refl _, Nat.zero_le _, fun h => absurd rfl h⟩, by simp⟩
  · simp [Value.cells] at hcs
    obtain ⟨rfl, rfl, rfl⟩ := hcs
    have hlm : len ≤ m := by rw [hmm]; split <;> omega
    rw [hC] at hi
    have hex : ∀ i, ∃ s : Sym, i < len → ((∀ j, j < 4 → W.cell? (x.add (i * 4 + j)) = s.cells[j]?) ∧ SymIn s.sect s.val) := by
      intro i
      by_cases hlt : i < len
      · obtain ⟨cs', hc, htr⟩ := hi i (by omega)
        obtain ⟨s, rfl, hin⟩ := sym_of_cells hs hone hC u0 u1 u2 u3 htr
        obtain ⟨-, -, hcell⟩ := World.cells?_some hc
        exact ⟨s, fun _ => ⟨fun j hj => by rw [← Go.Deep.add_add]; exact hcell j hj, hin⟩⟩
      · exact ⟨Sym.zero, fun h => absurd h hlt⟩
    obtain ⟨f, hfs⟩ := Classical.axiomOfChoice hex
    have hget : ∀ k s, ((List.range len).map f)[k]? = some s → k < len ∧ s = f k := by
      intro k s hk
      have hk' : k < len := by have := (List.getElem?_eq_some_iff.1 hk).1; simpa using this
      rw [List.getElem?_map, List.getElem?_range hk'] at hk
      simp at hk
      exact ⟨hk', hk.symm⟩
    refine ⟨(List.range len).map f, ⟨some x, cap, by simp, by simpa using hl, hm, fun hne => ?_⟩, fun s hs' => ?_⟩
    · have hpos : 0 < len := by
        have := List.length_pos_iff.2 hne
        simpa using this
      obtain ⟨b, off, spot⟩ := x
      have h0 := (hfs 0 hpos).1 0 (by omega)
      have h0' : W.cell? (Addr.add ⟨b, off, spot⟩ 0) = some (.string (mkS (f 0).name)) := h0
      have hspot : spot = none := by simpa [Addr.add] using World.cell?_spot h0'
      subst hspot
      refine ⟨b, off, rfl, fun k s hk => ?_⟩
      obtain ⟨hk', rfl⟩ := hget k s hk
      have hc := (hfs k hk').1
      have ea : ∀ i, (⟨b, off, none⟩ : Addr).add i = ⟨b, off + i, none⟩ := fun i => by unfold Addr.add; split <;> simp_all
      simp only [ea] at hc
      exact ⟨hc 0 (by omega), hc 1 (by omega), hc 2 (by omega), hc 3 (by omega)⟩
    · obtain ⟨i, hi', rfl⟩ := List.mem_map.1 hs'
      exact (hfs i (List.mem_range.1 hi')).2
end

theorem open_syms {H : Type} {enc : TypeId × Value → H} {W : World} {base base' : Nat} {sp : Nat → Bool} {held : Bool} {v : Value} {d : DataW H} {p : List MemPlace}
    (hv : Value.okWide Try.prog W .any base' 24 v) (h : DataW.Trod enc Try.prog W base sp held 24 v d p) :
    ∃ a len cap, v = .slice a len cap ∧ ∃ l, SN W (.slice a len cap) l ∧ ∀ s ∈ l, SymIn s.sect s.val :=
  open_syms_at Try.underlying24 Try.underlying30 (by kernel_rfl) (by kernel_rfl) Try.underlying9 Try.underlying3 Try.underlying28 Try.underlying4 hv h

/-! ### few -/
def fewM (l : List Sym) (most : Nat) : Bool := l.all (fun s => decide (s.name.length ≤ 400)) && decide (l.length ≤ most)

set_option maxHeartbeats 400000 in
theorem law_few (w : World) (p : Option Addr) (cap : Nat) (l : List Sym) (h : SN w (.slice p l.length cap) l) :
    Calls Try.prog 15 #[.slice p l.length cap, .int .i64 60] w fun e w' => e = .returned (.bool (fewM l 60)) ∧ w = w' := by
  have hml := h.len.2
  simp only [maxLen] at hml
  have H := hid h
  clear h
  go_enter Try.func15, Try.ntmps15
  go_wp2_with fail
  go_loop [5] (fun i => ∃ k : Nat, k ≤ l.length ∧ i = .int .i64 (k : Int) ∧ Hid (∀ s ∈ l.take k, s.name.length ≤ 400)) (fun i => l.length - (intOf i).toNat)
  case atStart => exact ⟨0, Nat.zero_le _, rfl, hid (by simp)⟩
  case round =>
    obtain ⟨k, hk, rfl, hall⟩ := hrel
    by_cases hlt : k < l.length
    · obtain ⟨g, off, rfl, hcs⟩ := H.out.at (by omega)
      obtain ⟨s, hs⟩ : ∃ s, l[k]? = some s := ⟨_, List.getElem?_eq_getElem hlt⟩
      have x0 := (hcs k s hs).1
      have Hs := hid hs
      clear hcs hs
      by_cases h4 : 400 < s.name.length
      · go_wp2_with fail
        go_ret
        refine ⟨?_, rfl⟩
        have : fewM l 60 = false := by
          unfold fewM
          rw [Bool.and_eq_false_iff]; left
          rw [List.all_eq_false]
          exact ⟨s, List.mem_of_getElem? Hs.out, by simp; omega⟩
        rw [this]
        rfl
      · go_wp2_with fail
        go_round
        case rel =>
          refine ⟨k + 1, by omega, by go_num, hid ?_⟩
          rw [take_snoc Hs.out]
          intro x hx
          rcases List.mem_append.1 hx with h1 | h1
          · exact hall.out x h1
          · simp at h1; subst h1; omega
        case measure => simp [intOf]; omega
    · obtain rfl : k = l.length := by omega
      go_wp2_with fail
      go_ret
      refine ⟨?_, rfl⟩
      have : fewM l 60 = decide (l.length ≤ 60) := by
        unfold fewM
        have ha : l.all (fun s => decide (s.name.length ≤ 400)) = true := by
          rw [List.all_eq_true]
          intro s hs
          have := hall.out s (by rw [List.take_length]; exact hs)
          simpa using this
        rw [ha, Bool.true_and]
      rw [this]
      show Ending.returned (.bool (decide ((l.length : Int) ≤ 60))) = Ending.returned (.bool (decide (l.length ≤ 60)))
      rw [show decide ((l.length : Int) ≤ 60) = decide (l.length ≤ 60) from by rw [decide_eq_decide]; omega]

end Go.Proofs.Ytdckfcpjdakjaaa
