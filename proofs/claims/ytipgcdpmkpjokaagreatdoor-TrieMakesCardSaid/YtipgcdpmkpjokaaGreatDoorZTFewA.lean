/- Few exports, of short names. -/
import Derived.Test.YtipgcdpmkpjokaaGreatDoorZTMayR
import Derived.Test.YtipgcdpmkpjokaaGreatDoorZOpen
import Derived.Deep.Slices
import Derived.Deep.Fields
import Derived.ChangeSame
namespace Go.Proofs.YtipgcdpmkpjokaaGreatDoor
set_option linter.unusedSimpArgs false
set_option linter.unusedVariables false
open Go.RowKit

def longE (x : Exp) : Bool := decide (400 < x.name.length ∨ 400 < x.other.length)
def fewB (l : List Exp) (most : Nat) : Bool := !l.any longE && decide (l.length ≤ most)

set_option maxHeartbeats 1000000 in
theorem tr_few (w : World) (v : Value) (l : List Exp) (most : Nat) (h : ES w v l) (hm : most ≤ 5000) :
    Calls Tryz.prog 12 #[v, .int .i64 (most : Nat)] w fun e w' => e = .returned (.bool (fewB l most)) ∧ w = w' := by
  obtain ⟨a, cap, rfl⟩ := h.form
  have hl := h.len
  have H := hid h
  clear h
  go_enter Tryz.func12, Tryz.ntmps12
  go_wp2_with fail
  go_loop [5] (fun i => ∃ k : Nat, k ≤ l.length ∧ i = .int .i64 (k : Int) ∧ Aside ((l.take k).any longE = false)) (fun i => l.length - (intOf i).toNat)
  case atStart => exact ⟨0, Nat.zero_le _, rfl, rfl⟩
  case round =>
    obtain ⟨k, hk, rfl, ha⟩ := hrel
    have Ha := hid ha.out
    clear ha
    by_cases hlt : k < l.length
    · obtain ⟨x, hx⟩ : ∃ x, l[k]? = some x := ⟨_, List.getElem?_eq_getElem hlt⟩
      obtain ⟨g, off, rfl, x0, x1, x2, x3, x4, x5, x6⟩ := H.out.at hx
      have hmem := List.mem_of_getElem? hx
      have Hx := hid (And.intro hx hmem)
      clear hx hmem x1 x2 x3 x4 x5
      by_cases h0 : 400 < x.name.length
      · have hd : decide ((400 : Int) < (x.name.length : Int)) = true := by simp; omega
        have hf : fewB l most = false := by
          unfold fewB
          rw [show l.any longE = true from List.any_eq_true.2 ⟨x, Hx.out.2, by unfold longE; simp; omega⟩]; rfl
        have Hf := hid hf
        clear hf h0
        go_wp2
        go_ret
        rw [Hf.out]
        exact ⟨rfl, rfl⟩
      · have hd : decide ((400 : Int) < (x.name.length : Int)) = false := by simp; omega
        by_cases h6 : 400 < x.other.length
        · have hd6 : decide ((400 : Int) < (x.other.length : Int)) = true := by simp; omega
          have hf : fewB l most = false := by
            unfold fewB
            rw [show l.any longE = true from List.any_eq_true.2 ⟨x, Hx.out.2, by unfold longE; simp; omega⟩]; rfl
          have Hf := hid hf
          clear hf h0 h6
          go_wp2
          go_ret
          rw [Hf.out]
          exact ⟨rfl, rfl⟩
        · have hd6 : decide ((400 : Int) < (x.other.length : Int)) = false := by simp; omega
          have hs : (l.take (k + 1)).any longE = false := by
            rw [take_snoc Hx.out.1, List.any_append, Ha.out]
            simp [longE]; omega
          have Hs := hid hs
          clear hs h0 h6
          go_wp2
          go_round
          case rel => exact ⟨k + 1, by omega, by go_num, Hs.out⟩
          case measure => simp [intOf]; omega
    · obtain rfl : k = l.length := by omega
      have hf : fewB l most = decide (l.length ≤ most) := by
        have := Ha.out
        rw [List.take_length] at this
        unfold fewB; rw [this]; rfl
      have Hf := hid hf
      clear hf
      go_wp2
      go_ret
      rw [Hf.out]
      exact ⟨rfl, rfl⟩
end Go.Proofs.YtipgcdpmkpjokaaGreatDoor

namespace Go.Proofs.YtipgcdpmkpjokaaGreatDoor
set_option linter.unusedSimpArgs false
set_option linter.unusedVariables false
open Go.ChangeShapes Go.WideShapes Go.ChangeAt Go.RowKit Go.Joins Go.Deep

/-- The value v reads in w as the exports l, however many. -/
def EN (w : World) (v : Value) (l : List Exp) : Prop :=
  ∃ (p : Option Addr) (cap : Nat), v = .slice p l.length cap ∧ l.length ≤ cap ∧ cap ≤ maxLen ∧
    (l ≠ [] → ∃ b off, p = some ⟨b, off, none⟩ ∧ ∀ i x, l[i]? = some x → ∀ c u, x.cells[c]? = some u → w.cell? ⟨b, off + i * 7 + c, none⟩ = some u)

theorem EN.es {w : World} {v : Value} {l : List Exp} (h : EN w v l) (hl : l.length ≤ 140737488355328) : ES w v l := by
  obtain ⟨p, cap, hv, h1, h2, h3⟩ := h
  exact ⟨p, cap, hv, h1, ⟨h2, hl⟩, h3⟩
theorem EN.form {w : World} {v : Value} {l : List Exp} (h : EN w v l) : ∃ a cap, v = .slice a l.length cap := by
  obtain ⟨a, cap, rfl, _⟩ := h; exact ⟨a, cap, rfl⟩
theorem EN.len {w : World} {v : Value} {l : List Exp} (h : EN w v l) : l.length ≤ maxLen := by obtain ⟨a, cap, rfl, h1, h2, _⟩ := h; exact Nat.le_trans h1 h2
theorem EN.at {w : World} {a : Option Addr} {n cap : Nat} {l : List Exp} (h : EN w (.slice a n cap) l) {k : Nat} {x : Exp} (hx : l[k]? = some x) :
    ∃ g off, a = some ⟨g, off, none⟩ ∧ w.cell? ⟨g, off + k * 7, none⟩ = some (.string (mkS x.name)) ∧ w.cell? ⟨g, off + k * 7 + 1, none⟩ = some (.int .i64 x.kind) ∧ w.cell? ⟨g, off + k * 7 + 2, none⟩ = some (.bool x.weak) ∧ w.cell? ⟨g, off + k * 7 + 3, none⟩ = some (.int .u64 (x.value : Int)) ∧ w.cell? ⟨g, off + k * 7 + 4, none⟩ = some (.int .u64 (x.resolver : Int)) ∧ w.cell? ⟨g, off + k * 7 + 5, none⟩ = some (.int .u64 (x.ordinal : Int)) ∧ w.cell? ⟨g, off + k * 7 + 6, none⟩ = some (.string (mkS x.other)) := by
  obtain ⟨a', cap', he, h1, h2, h3⟩ := h
  cases he
  obtain ⟨g, off, rfl, hc⟩ := h3 (by intro e; rw [e] at hx; simp at hx)
  exact ⟨g, off, rfl, hc k x hx 0 _ rfl, hc k x hx 1 _ rfl, hc k x hx 2 _ rfl, hc k x hx 3 _ rfl, hc k x hx 4 _ rfl, hc k x hx 5 _ rfl, hc k x hx 6 _ rfl⟩

/-- An export's numbers lie in their kinds. -/
def ExpIn (x : Exp) : Prop := x.value < 2 ^ 64 ∧ x.resolver < 2 ^ 64 ∧ x.ordinal < 2 ^ 64

section
variable {H : Type} {enc : TypeId × Value → H} {P : Program} {W : World} {base base' : Nat} {sp : Nat → Bool} {held : Bool}

/-- One export, out of a row of cells. -/
theorem exp_of_cells {t : TypeId} {n : Nat} {cs : List Value} {x : DataW H × List MemPlace} {f0 f1 f2 f3 f4 f5 f6 : Field} (hs : P.underlying t = some (.struct #[f0, f1, f2, f3, f4, f5, f6])) (hone : oneCellFields P #[f0, f1, f2, f3, f4, f5, f6] = true) (hC : P.cellsOf t = 7)
    (u0 : P.underlying f0.type = some .string) (u1 : P.underlying f1.type = some (.int .i64)) (u2 : P.underlying f2.type = some .bool) (u3 : P.underlying f3.type = some (.int .u64)) (u4 : P.underlying f4.type = some (.int .u64)) (u5 : P.underlying f5.type = some (.int .u64)) (u6 : P.underlying f6.type = some .string)
    (h : DataW.trod enc P W base sp held n t cs = some x) : ∃ s : Exp, cs = s.cells ∧ ExpIn s := by
  obtain ⟨ys, m, -, -, hl, hyl, hf⟩ := DataW.trod_struct hs h
  rw [hC] at hl
  match cs, hl with
  | [c0, c1, c2, c3, c4, c5, c6], _ =>
    have hy : ∀ j, j < 7 → ∃ y, ys[j]? = some y := fun j hj => ⟨_, List.getElem?_eq_getElem (by rw [hyl]; exact hj)⟩
    obtain ⟨o0, k0⟩ := hone_of hone 0 f0 rfl
    obtain ⟨o1, k1⟩ := hone_of hone 1 f1 rfl
    obtain ⟨o2, k2⟩ := hone_of hone 2 f2 rfl
    obtain ⟨o3, k3⟩ := hone_of hone 3 f3 rfl
    obtain ⟨o4, k4⟩ := hone_of hone 4 f4 rfl
    obtain ⟨o5, k5⟩ := hone_of hone 5 f5 rfl
    obtain ⟨o6, k6⟩ := hone_of hone 6 f6 rfl
    obtain ⟨y0, e0⟩ := hy 0 (by omega)
    have g0 := hf 0 f0 rfl
    rw [e0, o0, k0] at g0
    obtain ⟨y1, e1⟩ := hy 1 (by omega)
    have g1 := hf 1 f1 rfl
    rw [e1, o1, k1] at g1
    obtain ⟨y2, e2⟩ := hy 2 (by omega)
    have g2 := hf 2 f2 rfl
    rw [e2, o2, k2] at g2
    obtain ⟨y3, e3⟩ := hy 3 (by omega)
    have g3 := hf 3 f3 rfl
    rw [e3, o3, k3] at g3
    obtain ⟨y4, e4⟩ := hy 4 (by omega)
    have g4 := hf 4 f4 rfl
    rw [e4, o4, k4] at g4
    obtain ⟨y5, e5⟩ := hy 5 (by omega)
    have g5 := hf 5 f5 rfl
    rw [e5, o5, k5] at g5
    obtain ⟨y6, e6⟩ := hy 6 (by omega)
    have g6 := hf 6 f6 rfl
    rw [e6, o6, k6] at g6
    cases m with
    | zero => simp [DataW.trod] at g0
    | succ m =>
      obtain ⟨s, d0, -⟩ := DataW.trod_string u0 g0
      obtain ⟨k, d1, -, -⟩ := DataW.trod_int u1 g1
      obtain ⟨b, d2, -⟩ := DataW.trod_bool u2 g2
      obtain ⟨m3, d3, -, w3⟩ := DataW.trod_int u3 g3
      obtain ⟨m4, d4, -, w4⟩ := DataW.trod_int u4 g4
      obtain ⟨m5, d5, -, w5⟩ := DataW.trod_int u5 g5
      obtain ⟨s6, d6, -⟩ := DataW.trod_string u6 g6
      simp at d0 d1 d2 d3 d4 d5 d6
      subst d0 d1 d2 d3 d4 d5 d6
      have b3 := wf_u64 w3
      have b4 := wf_u64 w4
      have b5 := wf_u64 w5
      refine ⟨⟨s.data.toList, k, b, m3.toNat, m4.toNat, m5.toNat, s6.data.toList⟩, ?_, by show m3.toNat < _; omega, by show m4.toNat < _; omega, by show m5.toNat < _; omega⟩
      simp only [Exp.cells, mkS_data, Int.toNat_of_nonneg b3.1, Int.toNat_of_nonneg b4.1, Int.toNat_of_nonneg b5.1]

/-- A slice of exports. -/
theorem open_exps_at {t e : TypeId} {v : Value} {d : DataW H} {p : List MemPlace} {f0 f1 f2 f3 f4 f5 f6 : Field} (ht : P.underlying t = some (.slice e)) (hs : P.underlying e = some (.struct #[f0, f1, f2, f3, f4, f5, f6])) (hone : oneCellFields P #[f0, f1, f2, f3, f4, f5, f6] = true) (hC : P.cellsOf e = 7)
    (u0 : P.underlying f0.type = some .string) (u1 : P.underlying f1.type = some (.int .i64)) (u2 : P.underlying f2.type = some .bool) (u3 : P.underlying f3.type = some (.int .u64)) (u4 : P.underlying f4.type = some (.int .u64)) (u5 : P.underlying f5.type = some (.int .u64)) (u6 : P.underlying f6.type = some .string)
    (hv : Value.okWide P W .any base' t v) (h : DataW.Trod enc P W base sp held t v d p) :
    ∃ a len cap, v = .slice a len cap ∧ ∃ l, EN W (.slice a len cap) l ∧ ∀ s ∈ l, ExpIn s := by
  obtain ⟨a, len, cap, rfl⟩ := okWide_slice ht hv
  refine ⟨a, len, cap, rfl, ?_⟩
  obtain ⟨fuel, hf⟩ := h
  rcases open_slice ht hf with ⟨hcs, _⟩ | ⟨x, l, c, m, n, D, Pl, hcs, _, hl, hm, hmm, _, hi⟩
  · simp [Value.cells] at hcs
    obtain ⟨rfl, rfl, rfl⟩ := hcs
    exact ⟨[], ⟨none, 0, rfl, Nat.le_refl _, Nat.zero_le _, fun h => absurd rfl h⟩, by simp⟩
  · simp [Value.cells] at hcs
    obtain ⟨rfl, rfl, rfl⟩ := hcs
    have hlm : len ≤ m := by rw [hmm]; split <;> omega
    rw [hC] at hi
    have hex : ∀ i, ∃ s : Exp, i < len → ((∀ j, j < 7 → W.cell? (x.add (i * 7 + j)) = s.cells[j]?) ∧ ExpIn s) := by
      intro i
      by_cases hlt : i < len
      · obtain ⟨cs', hc, htr⟩ := hi i (by omega)
        obtain ⟨s, rfl, hin⟩ := exp_of_cells hs hone hC u0 u1 u2 u3 u4 u5 u6 htr
        obtain ⟨-, -, hcell⟩ := World.cells?_some hc
        exact ⟨s, fun _ => ⟨fun j hj => by rw [← Go.Deep.add_add]; exact hcell j hj, hin⟩⟩
      · exact ⟨Exp.zero, fun h => absurd h hlt⟩
    obtain ⟨f, hfs⟩ := Classical.axiomOfChoice hex
    have hget : ∀ k s, ((List.range len).map f)[k]? = some s → k < len ∧ s = f k := by
      intro k s hk
      have hk' : k < len := by have := (List.getElem?_eq_some_iff.1 hk).1; simpa using this
      rw [List.getElem?_map, List.getElem?_range hk'] at hk
      simp at hk
      exact ⟨hk', hk.symm⟩
    refine ⟨(List.range len).map f, ⟨some x, cap, by simp, by simpa using hl, hm, fun hne => ?_⟩, fun s hs' => ?_⟩
    · have hpos : 0 < len := by
        have := List.length_pos_iff.2 hne
        simpa using this
      obtain ⟨b, off, spot⟩ := x
      have h0 := (hfs 0 hpos).1 0 (by omega)
      have h0' : W.cell? (Addr.add ⟨b, off, spot⟩ 0) = some (.string (mkS (f 0).name)) := h0
      have hspot : spot = none := by simpa [Addr.add] using World.cell?_spot h0'
      subst hspot
      refine ⟨b, off, rfl, fun k s hk c u hu => ?_⟩
      obtain ⟨hk', rfl⟩ := hget k s hk
      have hc := (hfs k hk').1
      have ea : ∀ i, (⟨b, off, none⟩ : Addr).add i = ⟨b, off + i, none⟩ := fun i => by unfold Addr.add; split <;> simp_all
      simp only [ea] at hc
      have hcl : c < 7 := (List.getElem?_eq_some_iff.1 hu).1
      rw [Nat.add_assoc, hc c hcl]; exact hu
    · obtain ⟨i, hi', rfl⟩ := List.mem_map.1 hs'
      exact (hfs i (List.mem_range.1 hi')).2
end

set_option maxRecDepth 100000 in
theorem open_exps {H : Type} {enc : TypeId × Value → H} {W : World} {base base' : Nat} {sp : Nat → Bool} {held : Bool} {v : Value} {d : DataW H} {p : List MemPlace}
    (hv : Value.okWide Tryz.prog W .any base' 23 v) (h : DataW.Trod enc Tryz.prog W base sp held 23 v d p) :
    ∃ a len cap, v = .slice a len cap ∧ ∃ l, EN W (.slice a len cap) l ∧ ∀ s ∈ l, ExpIn s :=
  open_exps_at Tryz.underlying23 Tryz.underlying28 (by kernel_rfl) (by kernel_rfl) Tryz.underlying9 Tryz.underlying25 Tryz.underlying4 Tryz.underlying26 Tryz.underlying26 Tryz.underlying26 Tryz.underlying9 hv h

set_option maxHeartbeats 1000000 in
theorem tr_fewN (w : World) (v : Value) (l : List Exp) (most : Nat) (h : EN w v l) (hm : most ≤ 5000) :
    Calls Tryz.prog 12 #[v, .int .i64 (most : Nat)] w fun e w' => e = .returned (.bool (fewB l most)) ∧ w = w' := by
  obtain ⟨a, cap, rfl⟩ := h.form
  have hl := h.len
  simp only [maxLen] at hl
  have H := hid h
  clear h
  go_enter Tryz.func12, Tryz.ntmps12
  go_wp2_with fail
  go_loop [5] (fun i => ∃ k : Nat, k ≤ l.length ∧ i = .int .i64 (k : Int) ∧ Aside ((l.take k).any longE = false)) (fun i => l.length - (intOf i).toNat)
  case atStart => exact ⟨0, Nat.zero_le _, rfl, rfl⟩
  case round =>
    obtain ⟨k, hk, rfl, ha⟩ := hrel
    have Ha := hid ha.out
    clear ha
    by_cases hlt : k < l.length
    · obtain ⟨x, hx⟩ : ∃ x, l[k]? = some x := ⟨_, List.getElem?_eq_getElem hlt⟩
      obtain ⟨g, off, rfl, x0, x1, x2, x3, x4, x5, x6⟩ := H.out.at hx
      have hmem := List.mem_of_getElem? hx
      have Hx := hid (And.intro hx hmem)
      clear hx hmem x1 x2 x3 x4 x5
      by_cases h0 : 400 < x.name.length
      · have hd : decide ((400 : Int) < (x.name.length : Int)) = true := by simp; omega
        have hf : fewB l most = false := by
          unfold fewB
          rw [show l.any longE = true from List.any_eq_true.2 ⟨x, Hx.out.2, by unfold longE; simp; omega⟩]; rfl
        have Hf := hid hf
        clear hf h0
        go_wp2
        go_ret
        rw [Hf.out]
        exact ⟨rfl, rfl⟩
      · have hd : decide ((400 : Int) < (x.name.length : Int)) = false := by simp; omega
        by_cases h6 : 400 < x.other.length
        · have hd6 : decide ((400 : Int) < (x.other.length : Int)) = true := by simp; omega
          have hf : fewB l most = false := by
            unfold fewB
            rw [show l.any longE = true from List.any_eq_true.2 ⟨x, Hx.out.2, by unfold longE; simp; omega⟩]; rfl
          have Hf := hid hf
          clear hf h0 h6
          go_wp2
          go_ret
          rw [Hf.out]
          exact ⟨rfl, rfl⟩
        · have hd6 : decide ((400 : Int) < (x.other.length : Int)) = false := by simp; omega
          have hs : (l.take (k + 1)).any longE = false := by
            rw [take_snoc Hx.out.1, List.any_append, Ha.out]
            simp [longE]; omega
          have Hs := hid hs
          clear hs h0 h6
          go_wp2
          go_round
          case rel => exact ⟨k + 1, by omega, by go_num, Hs.out⟩
          case measure => simp [intOf]; omega
    · obtain rfl : k = l.length := by omega
      have hf : fewB l most = decide (l.length ≤ most) := by
        have := Ha.out
        rw [List.take_length] at this
        unfold fewB; rw [this]; rfl
      have Hf := hid hf
      clear hf
      go_wp2
      go_ret
      rw [Hf.out]
      exact ⟨rfl, rfl⟩
end Go.Proofs.YtipgcdpmkpjokaaGreatDoor
