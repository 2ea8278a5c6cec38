/- Exports are sorted by their names: slices.SortFunc by its contract. -/
import Derived.Test.YthhjdkcnkdffcaaGreatZSortM
import Derived.Test.YthhjdkcnkdffcaaGreatZDown
import Derived.Test.YthhjdkcnkdffcaaGreatShelfB
import Derived.Sort.Walk0
namespace Go.Proofs.YthhjdkcnkdffcaaGreat
set_option linter.unusedSimpArgs false
set_option linter.unusedVariables false
open Go.RowKit Go.Sort Go.Lib
set_option maxHeartbeats 1000000 in
theorem isNaN_string (x : List UInt8) (w : World) : Calls Tryz.prog 149 #[.string (mkS x)] w fun e w' => e = .returned (.bool false) ∧ w' = w := by
  go_enter Tryz.func149, Tryz.ntmps149
  go_wp2
  go_ret
  exact ⟨by simp, rfl⟩
set_option maxHeartbeats 1000000 in
theorem cmp_string (x y : List UInt8) (w : World) : Calls Tryz.prog 130 #[.string (mkS x), .string (mkS y)] w fun e w' => e = .returned (.int .i64 (cmpS x y)) ∧ w' = w := by
  have e1 : Op.bytesLess x y = ltStr x y := bytesLess_eq x y
  have e2 : Op.bytesLess y x = ltStr y x := bytesLess_eq y x
  have hz : ∀ z : Int, cmpS x y = z → Ending.returned (Value.int .i64 z) = .returned (.int .i64 (cmpS x y)) := fun z h => by rw [h]
  cases h1 : ltStr x y with
  | true =>
    have H := hid (hz (-1) (by unfold cmpS; rw [h1]; rfl))
    rw [h1] at e1
    clear hz h1 e2
    go_enter Tryz.func130, Tryz.ntmps130
    go_wp2_with (first | (go_at_call 149; refine (isNaN_string _ _).mono ?_; rintro e w' ⟨rfl, rfl⟩))
    go_ret
    exact ⟨H.out, rfl⟩
  | false =>
    cases h2 : ltStr y x with
    | true =>
      have H := hid (hz 1 (by unfold cmpS; rw [h1, h2]; rfl))
      have hne : (x == y) = false := by
        rw [beq_eq_false_iff_ne]; intro e; rw [e, swo_ltStr.irrefl] at h2; cases h2
      rw [h1] at e1
      rw [h2] at e2
      clear hz h1 h2
      go_enter Tryz.func130, Tryz.ntmps130
      go_wp2_with (first | (go_at_call 149; refine (isNaN_string _ _).mono ?_; rintro e w' ⟨rfl, rfl⟩))
      go_ret
      exact ⟨H.out, rfl⟩
    | false =>
      have H := hid (hz 0 (by unfold cmpS; rw [h1, h2]; rfl))
      have heq : (x == y) = true := by rw [ltStr_anti h1 h2]; simp
      rw [h1] at e1
      rw [h2] at e2
      clear hz h1 h2
      go_enter Tryz.func130, Tryz.ntmps130
      go_wp2_with (first | (go_at_call 149; refine (isNaN_string _ _).mono ?_; rintro e w' ⟨rfl, rfl⟩))
      go_ret
      exact ⟨H.out, rfl⟩
set_option maxHeartbeats 1000000 in
theorem by_name (x y : Exp) (W : World) : Calls Tryz.prog 112 #[.agg x.cells.toArray, .agg y.cells.toArray] W fun e w' => e = .returned (.int .i64 (cmpE x y)) ∧ ∃ q os', w' = grow (W.drewN q) os' := by
  have hcon := fun W' => cmp_string x.name y.name W'
  unfold cmpE
  generalize cmpS x.name y.name = r at hcon ⊢
  unfold Exp.cells
  go_enter Tryz.func112, Tryz.ntmps112
  go_wp2_with (go_at_call 130; refine (hcon _).mono ?_; rintro e w' ⟨rfl, rfl⟩)
  go_ret
  exact ⟨rfl, 0, _, by rw [alloc_eq_grow, alloc_eq_grow, grow_grow]; rfl⟩
theorem cmpLaysE (blk off size : Nat) (w : World) : CmpLays Tryz.prog 112 #[] Exp.cells 7 cmpE blk off size w := fun _ _ _ _ x y => by_name x y _
theorem agg_exp (w : World) : (isAgg 25).run Tryz.prog w = .ok true w := by kernel_rfl
theorem size_exp (w : World) : (Go.sizeOf 25).run Tryz.prog w = .ok 7 w := by kernel_rfl
/-- A slice that reads as exports. -/
def ES (w : World) (v : Value) (l : List Exp) : Prop :=
  ∃ (p : Option Addr) (cap : Nat), v = .slice p l.length cap ∧ l.length ≤ cap ∧ (cap ≤ maxLen ∧ l.length ≤ 140737488355328) ∧
    (l ≠ [] → ∃ b off, p = some ⟨b, off, none⟩ ∧ ∀ i x, l[i]? = some x → ∀ c u, x.cells[c]? = some u → w.cell? ⟨b, off + i * 7 + c, none⟩ = some u)
theorem ES.nil (w : World) : ES w (.slice none 0 0) [] := ⟨none, 0, rfl, Nat.le_refl _, ⟨Nat.zero_le _, Nat.zero_le _⟩, fun h => absurd rfl h⟩
theorem ES.below {w w' : World} {v : Value} {l : List Exp} (h : ES w v l) (hb : Below w.heap.size w w') : ES w' v l := by
  obtain ⟨p, cap, rfl, h1, h2, h3⟩ := h
  refine ⟨p, cap, rfl, h1, h2, fun hne => ?_⟩
  obtain ⟨b, off, rfl, hc⟩ := h3 hne
  refine ⟨b, off, rfl, fun i x hx c u hu => ?_⟩
  have h4 := hc i x hx c u hu
  rw [hb.cell (p := ⟨b, off + i * 7 + c, none⟩) (lt_of_cellB h4)]; exact h4
theorem expCells_get (l : List Exp) : ∀ (i : Nat) (x : Exp), l[i]? = some x → ∀ c u, x.cells[c]? = some u → (expCells l)[i * 7 + c]? = some u := by
  induction l with
  | nil => intro i x h; simp at h
  | cons y l ih =>
    intro i x h c u hu
    have hy : y.cells.length = 7 := rfl
    have hcl : c < 7 := by have := (List.getElem?_eq_some_iff.1 hu).1; have hx : x.cells.length = 7 := rfl; omega
    cases i with
    | zero =>
      simp at h; subst h
      simp only [expCells, List.flatMap_cons]
      rw [List.getElem?_append_left (by omega), Nat.zero_mul, Nat.zero_add]; exact hu
    | succ i =>
      have := ih i x (by simpa using h) c u hu
      simp only [expCells, List.flatMap_cons]
      rw [List.getElem?_append_right (by omega)]
      rw [show (i + 1) * 7 + c - y.cells.length = i * 7 + c by omega]; exact this
/-- Cells of the call's own read as exports. -/
theorem ES.of_owns {w : World} {base : Nat} {e : TypeId} {v : Value} {l : List Exp} (h : w.ownsRow base e 7 v l.length (expCells l)) (hl : l.length ≤ 140737488355328) : ES w v l := by
  have h0 := h
  rcases h.2 with ⟨rfl, h1⟩ | ⟨g, cap, cur, rfl, hb, hg, hnc, hcm, hcs, htake⟩
  · obtain rfl : l = [] := List.eq_nil_of_length_eq_zero h1
    exact ES.nil w
  · refine ⟨_, cap, rfl, hnc, ⟨hcm, hl⟩, fun hne => ⟨g, 0, rfl, fun i x hx c u hu => ?_⟩⟩
    have hg2 := expCells_get l i x hx c u hu
    have hlt := (List.getElem?_eq_some_iff.1 hg2).1
    rw [Nat.zero_add]
    rw [cell_of_row w g (i * 7 + c) _ _ _ hg]
    rw [← htake, List.getElem?_take] at hg2
    split at hg2
    · simpa using hg2
    · cases hg2
/-- A row of the call's own, as the sort asks it. -/
theorem holds_owns {w : World} {base : Nat} {e : TypeId} {g cap : Nat} {l : List Exp} (h : w.ownsRow base e 7 (.slice (some ⟨g, 0, none⟩) l.length cap) l.length (expCells l)) (hpos : 0 < l.length) : HoldsK Exp.cells 7 w g 0 l.toArray := by
  rcases h.2 with ⟨he, _⟩ | ⟨g', cap', cur, he, hb, hg, hnc, hcm, hcs, htake⟩
  · cases he
  · cases he
    intro j hj
    have hj' : j < l.length * 7 := by simpa using hj
    refine ⟨?_, frozen_of_row w g (0 + j) _ _ hg⟩
    rw [cell_of_row w g (0 + j) _ _ _ hg, Nat.zero_add]
    show cur[j]? = some (id (flatK Exp.cells 7 l.toArray)[j]!)
    rw [id, get_flatK _ _ _ _ (by simpa using hj')]
    have hi : j / 7 < l.length := by omega
    have hx : l[j / 7]? = some (l[j / 7]) := List.getElem?_eq_getElem hi
    have hc : j % 7 < (l[j / 7]).cells.length := by show j % 7 < 7; omega
    have hg2 := expCells_get l (j / 7) _ hx (j % 7) _ (List.getElem?_eq_getElem hc)
    rw [show j / 7 * 7 + j % 7 = j by omega, ← htake, List.getElem?_take, if_pos hj'] at hg2
    have hcj : cur[j]? = some ((l[j / 7]).cells[j % 7]) := by simpa using hg2
    rw [hcj]
    simp only [List.getElem!_toArray, getElem!_pos l (j / 7) hi, getElem!_pos (l[j / 7]).cells (j % 7) hc]
theorem grownBy_sortK {w : World} {g n : Nat} {os : Array Obj} (d : Array Exp) : w.grownBy (sortWorldK Exp.cells 7 w g 0 n d os) (some g) := by
  refine ⟨rfl, rfl, rfl, ?_, fun k hk hne => ?_⟩
  · unfold sortWorldK grow putRowK; simp [putRow, mapBlock, Sort.ahead]
  · have hkg : ¬ g = k := fun e => hne (by rw [e])
    show ((putRowK Exp.cells 7 (Sort.ahead w n) g 0 d).heap ++ os)[k]? = _
    rw [Array.getElem?_append_left (by unfold putRowK; simpa [putRow, mapBlock, Sort.ahead] using hk)]
    unfold putRowK putRow mapBlock
    simp only [Array.getElem?_modify]
    rw [if_neg hkg]; rfl
theorem eg24 : ∀ (args : Array Value) (w : World), (callFunc 112 args).run Tryz.prog w = .ok (.enter 112 args) w := enters_of Tryz.func112 (by kernel_rfl) rfl
/-- The exports are sorted. -/
theorem sort_any (W : World) (base : Nat) (v : Value) (out : List Exp) (h : W.ownsRow base 25 7 v out.length (expCells out)) (hl : out.length ≤ 140737488355328) (hap : NamesApart out) :
    Calls Tryz.prog 111 #[v, .func (.func 112) #[] #[]] W fun e w' => e = .returned (.tuple #[]) ∧ ES w' v (byNames out) ∧ W.grownBy w' v.ownBlock := by
  have h0 := h
  rcases Nat.eq_zero_or_pos out.length with hz | hpos
  · obtain rfl : out = [] := List.eq_nil_of_length_eq_zero hz
    obtain ⟨p, cap, rfl⟩ := ownsRow_form h
    have hS := AnyF.slices_SortFunc_none (P := Tryz.prog) (ρ := Tryz.sortF_ren) { Tryz.sortF with } p cap (.func (.func 112) #[] #[]) W
    change Calls Tryz.prog 111 _ _ _ at hS
    refine hS.mono ?_
    rintro e w' ⟨rfl, rfl⟩
    refine ⟨rfl, ?_, grownBy_refl _ _⟩
    rw [show byNames [] = [] from by simp [byNames]]
    rcases h.2 with ⟨he, _⟩ | ⟨g, cap', cur, he, hb, hg, hnc, hcm, hcs, htake⟩
    · rw [he]; exact ES.nil _
    · obtain ⟨-, -, h3⟩ := Value.slice.inj he
      exact ⟨p, cap, rfl, Nat.zero_le _, ⟨by rw [h3]; exact hcm, Nat.zero_le _⟩, fun hne => absurd rfl hne⟩
  · rcases h.2 with ⟨_, hz⟩ | ⟨g, cap, cur, rfl, hb, hg, hnc, hcm, hcs, htake⟩
    · omega
    · have hH := holds_owns h0 hpos
      have hlt := (World.ownsRow.lt h0 g rfl).2
      have hS := AnyQ.slices_SortFunc Tryz.sortF 7 agg_exp size_exp Exp.cells (fun _ => rfl) (fun x v hv => by simp [Exp.cells] at hv; rcases hv with rfl | rfl | rfl | rfl | rfl | rfl | rfl <;> rfl) cmpE swoE 112 #[] g 0 cap out.toArray W eg24 (cmpLaysE g 0 _ W) hH hlt (by simp; omega)
      rw [show out.toArray.size = out.length from by simp] at hS
      change Calls Tryz.prog 111 _ _ _ at hS
      refine hS.mono ?_
      rintro e w' ⟨rfl, d', n, os, hp, hs, rfl⟩
      refine ⟨rfl, ?_, grownBy_sortK d'⟩
      have hd : d'.toList = byNames out := by
        have := sorted_is (d := out.toArray) (d' := d') (by simpa using hap) (by simpa using hp) (by simpa using hs)
        simpa using this
      have hsz : d'.size = out.length := by have := hp.1; simpa using this
      have hH2 := holdsK_sortWorldK Exp.cells 7 W g 0 n out.toArray d' os hlt hH (by simp [hsz])
      have hbl : (byNames out).length = out.length := by rw [← hd]; simpa using hsz
      refine ⟨some ⟨g, 0, none⟩, cap, by rw [hbl], by omega, ⟨hcm, by omega⟩, fun _ => ⟨g, 0, rfl, fun i x hx c u hu => ?_⟩⟩
      have hi : i < d'.size := by rw [hsz, ← hbl]; exact (List.getElem?_eq_some_iff.1 hx).1
      have hc : c < 7 := by have := (List.getElem?_eq_some_iff.1 hu).1; have h7 : x.cells.length = 7 := rfl; omega
      have hcell := (hH2.cell hi hc).1
      rw [hcell]
      have hxe : d'[i]! = x := by
        rw [getElem!_pos d' i hi]
        rw [← hd] at hx
        have := (List.getElem?_eq_some_iff.1 hx).2
        simpa using this
      rw [hxe, getElem!_pos x.cells c (by show c < 7; exact hc)]
      exact congrArg some (List.getElem?_eq_some_iff.1 hu).2
end Go.Proofs.YthhjdkcnkdffcaaGreat
