/- How pieces of memory, when they came in, are opened. -/
import Derived.Test.YthlnjfnjmjdohaaZBpA
import Derived.Test.YthlnjfnjmjdohaaZOpen
import Derived.SizedLaws
namespace Go.Proofs.Ythlnjfnjmjdohaa
set_option linter.unusedSimpArgs false
set_option linter.unusedVariables false
open Go.ChangeShapes Go.WideShapes Go.ChangeAt Go.RowKit Go.Joins Go.Deep

section
variable {H : Type} {enc : TypeId × Value → H} {P : Program} {W : World} {base base' : Nat} {sp : Nat → Bool} {held : Bool}
theorem weights_all {e : TypeId} : ∀ {l : List (DataW H)} {d : DataW H}, d ∈ l → ∀ k ∈ d.weights P e, k ∈ DataW.weightsAll P e l
  | x :: l, d, h, k, hk => by
    simp only [DataW.weightsAll, List.mem_append]
    rcases List.mem_cons.1 h with rfl | h
    · exact .inl hk
    · exact .inr (weights_all h k hk)
theorem sized_slice {t e : TypeId} {p : Option Addr} {n cap fuel : Nat} {y : DataW H × List MemPlace} (ht : P.underlying t = some (.slice e)) (hb : 0 < P.bytesOf e) (h : DataW.trod enc P W base sp held fuel t [.slice p n cap] = some y)
    (hw : ∀ k ∈ y.1.weights P t, k ≤ reachBytes) : n ≤ reachBytes := by
  rcases DataW.trod_slice ht h with ⟨hc, -⟩ | ⟨a, len, cap', elems, rest, m, -, hc, hx, -, -, -, hl, -⟩
  · simp only [List.cons.injEq, and_true, Value.slice.injEq] at hc
    rw [hc.2.1]; exact Nat.zero_le _
  · simp only [List.cons.injEq, and_true, Value.slice.injEq] at hc
    rw [hc.2.1]
    subst hx
    have := hw _ (by simp only [DataW.weights, ht]; exact List.mem_cons_self)
    simp only [List.length_map] at this
    rw [hl] at this
    exact Nat.le_trans (Nat.le_trans (Nat.le_add_right _ _) (Nat.le_mul_of_pos_right _ hb)) this
/-- A row of structs whose readings are within reach. -/
theorem open_rows_w {α : Type} [Inhabited α] {cs : α → List Value} {k : Nat} (Q : α → Prop) {t e : TypeId} {fuel : Nat} {c0 : List Value} {x0 : DataW H × List MemPlace} (ht : P.underlying t = some (.slice e)) (hC : P.cellsOf e = k) (hk : 0 < k) (hlen : ∀ x, (cs x).length = k)
    (hone : ∀ (n : Nat) (c : List Value) (y : DataW H × List MemPlace), (∀ k ∈ y.1.weights P e, k ≤ reachBytes) → DataW.trod enc P W base sp held n e c = some y → ∃ x, c = cs x ∧ Q x)
    (hw : ∀ k ∈ x0.1.weights P t, k ≤ reachBytes) (hf : DataW.trod enc P W base sp held fuel t c0 = some x0) :
    ∃ a len cap, c0 = [.slice a len cap] ∧ ∃ l : List α, RowsAt cs k W (.slice a len cap) l ∧ ∀ x ∈ l, Q x := by
  rcases open_slice ht hf with ⟨hcs, _⟩ | ⟨x, l, c, m, n, D, Pl, hcs, _, hl, hm, hmm, hx0, hi⟩
  · exact ⟨none, 0, 0, hcs, [], RowsAt.nil W, by simp⟩
  · refine ⟨some x, l, c, hcs, ?_⟩
    have hlm : l ≤ m := by rw [hmm]; split <;> omega
    rw [hC] at hi
    have hwD : ∀ i, i < l → ∀ k ∈ (D i).weights P e, k ≤ reachBytes := fun i hil q hq => by
      refine hw q ?_
      rw [hx0]
      simp only [DataW.weights, ht]
      exact List.mem_cons_of_mem _ (List.mem_append_left _ (weights_all (List.mem_map.2 ⟨i, List.mem_range.2 hil, rfl⟩) q hq))
    have hex : ∀ i, ∃ s : α, i < l → ((∀ j, j < k → W.cell? (x.add (i * k + j)) = (cs s)[j]?) ∧ Q s) := by
      intro i
      by_cases hlt : i < l
      · obtain ⟨cs', hc, htr⟩ := hi i (by omega)
        obtain ⟨s, rfl, hin⟩ := hone _ _ _ (hwD i hlt) htr
        obtain ⟨-, -, hcell⟩ := World.cells?_some hc
        exact ⟨s, fun _ => ⟨fun j hj => by rw [← Go.Deep.add_add]; exact hcell j hj, hin⟩⟩
      · exact ⟨default, fun h => absurd h hlt⟩
    obtain ⟨f, hfs⟩ := Classical.axiomOfChoice hex
    have hget : ∀ i s, ((List.range l).map f)[i]? = some s → i < l ∧ s = f i := by
      intro i s hs
      have hk' : i < l := by have := (List.getElem?_eq_some_iff.1 hs).1; simpa using this
      rw [List.getElem?_map, List.getElem?_range hk'] at hs
      simp at hs
      exact ⟨hk', hs.symm⟩
    refine ⟨(List.range l).map f, ⟨some x, c, by simp, by simpa using hl, hm, fun hne => ?_⟩, fun s hs' => ?_⟩
    · have hpos : 0 < l := by
        have := List.length_pos_iff.2 hne
        simpa using this
      obtain ⟨b, off, spot⟩ := x
      have h0 := (hfs 0 hpos).1 0 hk
      have hu0 : ∃ u, (cs (f 0))[0]? = some u := ⟨_, List.getElem?_eq_getElem (by rw [hlen]; exact hk)⟩
      obtain ⟨u, hu⟩ := hu0
      rw [hu] at h0
      have h0' : W.cell? (Addr.add ⟨b, off, spot⟩ 0) = some u := by simpa using h0
      have hspot : spot = none := by simpa [Addr.add] using World.cell?_spot h0'
      subst hspot
      refine ⟨b, off, rfl, fun i s hs c u hu => ?_⟩
      obtain ⟨hk', rfl⟩ := hget i s hs
      have hc := (hfs i hk').1
      have ea : ∀ i, (⟨b, off, none⟩ : Addr).add i = ⟨b, off + i, none⟩ := fun i => by unfold Addr.add; split <;> simp_all
      simp only [ea] at hc
      have hck : c < k := by rw [← hlen (f i)]; exact (List.getElem?_eq_some_iff.1 hu).1
      have := hc c hck
      rw [hu] at this
      rw [Nat.add_assoc]
      exact this
    · obtain ⟨i, hi', e⟩ := List.mem_map.1 hs'
      rw [← e]
      exact (hfs i (List.mem_range.1 hi')).2
/-- A struct of three fields of a cell each, with its reading. -/
theorem open_threeA {t : TypeId} {f0 f1 f2 : Field} {n : Nat} {cs : List Value} {x : DataW H × List MemPlace} (hs : P.underlying t = some (.struct #[f0, f1, f2])) (hone : oneCellFields P #[f0, f1, f2] = true) (hC : P.cellsOf t = 3) (h : DataW.trod enc P W base sp held n t cs = some x) :
    ∃ (v0 v1 v2 : Value) (y0 y1 y2 : DataW H × List MemPlace) (n : Nat), cs = [v0, v1, v2] ∧ x.1 = .agg [y0.1, y1.1, y2.1] ∧ DataW.trod enc P W base sp held n f0.type [v0] = some y0 ∧ DataW.trod enc P W base sp held n f1.type [v1] = some y1 ∧ DataW.trod enc P W base sp held n f2.type [v2] = some y2 := by
  obtain ⟨xs, m, _, hx, hl, hlen, hg⟩ := DataW.trod_struct hs h
  obtain ⟨o0, k0⟩ := hone_of hone 0 f0 rfl
  obtain ⟨o1, k1⟩ := hone_of hone 1 f1 rfl
  obtain ⟨o2, k2⟩ := hone_of hone 2 f2 rfl
  match cs, hl.trans hC with
  | [c0, c1, c2], _ =>
    match xs, hlen with
    | [y0, y1, y2], _ =>
      exact ⟨c0, c1, c2, y0, y1, y2, m, rfl, by rw [hx]; rfl, by simpa [o0, k0] using hg 0 f0 rfl, by simpa [o1, k1] using hg 1 f1 rfl, by simpa [o2, k2] using hg 2 f2 rfl⟩
end
section
variable {H : Type} {enc : TypeId × Value → H} {W : World} {base base' : Nat} {sp : Nat → Bool} {held : Bool}
instance : Inhabited PzV := ⟨⟨0, 0, none, 0, []⟩⟩
theorem bytes_small {n fuel : Nat} {c : List Value} {y : DataW H × List MemPlace} (hw : ∀ k ∈ y.1.weights Try.prog 43, k ≤ reachBytes) (h : DataW.trod enc Try.prog W base sp held fuel 43 c = some y) :
    ∃ a cap l, c = [.slice a l.length cap] ∧ BS W (.slice a l.length cap) l := by
  obtain ⟨a, len, cap, e2, l, hl⟩ := open_bytes Try.underlying43 Try.underlying5 (by kernel_rfl) h
  subst e2
  have h2 := sized_slice Try.underlying43 (by decide +kernel) h hw
  obtain ⟨e, hb⟩ := hl
  subst e
  exact ⟨a, cap, l, rfl, hb (by unfold reachBytes at h2; omega)⟩
theorem one_pz (n : Nat) (c : List Value) (y : DataW H × List MemPlace) (hw : ∀ k ∈ y.1.weights Try.prog 45, k ≤ reachBytes) (h : DataW.trod enc Try.prog W base sp held n 45 c = some y) : ∃ x : PzV, c = x.cells ∧ (BS W (.slice x.p x.bytes.length x.cap) x.bytes ∧ x.at_ < 2 ^ 64) := by
  obtain ⟨v0, v1, v2, y0, y1, y2, m, rfl, hx, h0, h1, h2⟩ := open_threeA Try.underlying45 (by kernel_rfl) (by kernel_rfl) h
  obtain ⟨m0, e0, -, w0⟩ := DataW.trod_int Try.underlying42 h0
  obtain ⟨m1, e1, -, w1⟩ := DataW.trod_int Try.underlying3 h1
  have hw2 : ∀ k ∈ y2.1.weights Try.prog 43, k ≤ reachBytes := fun k hk => hw k (by
    rw [hx]
    simp only [DataW.weights, Try.underlying45]
    exact DataW.weights_mem_each (j := 2) rfl rfl k hk)
  obtain ⟨a, cap, l, e2, hl⟩ := bytes_small (n := n) hw2 h2
  simp only [List.cons.injEq, and_true] at e0 e1 e2
  subst e0 e1 e2
  have hw := wf_u64 w0
  exact ⟨⟨m0.toNat, m1, a, cap, l⟩, by unfold PzV.cells; rw [Int.toNat_of_nonneg hw.1], hl, by show m0.toNat < 2 ^ 64; omega⟩
set_option maxRecDepth 20000 in
theorem open_pieces {v : Value} {d : DataW H} {p : List MemPlace} (hv : Value.okWide Try.prog W .any base' 22 v) (h : DataW.Trod enc Try.prog W base sp held 22 v d p)
    (hw : ∀ k ∈ d.weights Try.prog 22, k ≤ reachBytes) : ∃ L, PzsAt W v L := by
  obtain ⟨a, len, cap, rfl⟩ := okWide_slice Try.underlying22 hv
  obtain ⟨fuel, hf⟩ := h
  obtain ⟨b, n, k, e, l, r, q⟩ := open_rows_w (cs := PzV.cells) (k := 3) (fun x : PzV => BS W (.slice x.p x.bytes.length x.cap) x.bytes ∧ x.at_ < 2 ^ 64) Try.underlying22 (by kernel_rfl) (by omega) pzLen one_pz hw hf
  simp [Value.cells] at e
  obtain ⟨rfl, rfl, rfl⟩ := e
  exact ⟨l, r, fun x hx => (q x hx).1, fun x hx => (q x hx).2⟩
end
end Go.Proofs.Ythlnjfnjmjdohaa
