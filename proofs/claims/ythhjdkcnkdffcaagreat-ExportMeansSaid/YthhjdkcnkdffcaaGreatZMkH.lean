/- The names of a trie's nodes: the reference's Knots. -/
import Derived.Test.YthhjdkcnkdffcaaGreatZSortM
import Derived.Test.YthhjdkcnkdffcaaGreatZMkD
import Derived.Test.YthhjdkcnkdffcaaGreatZRfL
import Derived.Test.YthhjdkcnkdffcaaGreatZRfK
import Derived.Test.YthhjdkcnkdffcaaGreatZMkK
import Derived.Test.YthhjdkcnkdffcaaGreatZTMay
import Derived.Deep.CutBlock
namespace Go.Proofs.YthhjdkcnkdffcaaGreat
set_option linter.unusedSimpArgs false
set_option linter.unusedVariables false
open Go.RowKit
theorem own_lit (w : World) (l : List Exp) (hl : l.length ≤ 140737488355328) : (w.alloc (.cells (expCells l).toArray 25)).ownsRow w.heap.size 25 7 (.slice (some ⟨w.heap.size, 0, none⟩) l.length l.length) l.length (expCells l) :=
  ⟨expCells_length l, .inr ⟨w.heap.size, l.length, (expCells l).toArray, rfl, Nat.le_refl _, heap_alloc_new w _, Nat.le_refl _, Nat.le_trans hl (by decide), by simp [expCells_length], List.take_of_length_le (by simp [expCells_length])⟩⟩
/-- Cells that were just laid, behind a draw. -/
theorem Src.laidD {P : Program} (w : World) {size : Nat} {tx e' t : TypeId} (hk : P.underlying tx = some (.slice e')) (news : List Value) (m : Nat) (hl : news.length = m * size) (h1 : ∀ u ∈ news, u.oneCell' = true) (fr : Nat × Nat) {B : Nat} (hB : w.heap.size = B) :
    Src P size tx (.slice (some ⟨B, 0, none⟩) m m) m news (w.alloc (.cells news.toArray t fr)).drew := by
  subst hB
  refine Src.ofSlice _ hk _ m m news hl (fun j x hx => ?_) h1
  have ea : (⟨w.heap.size, 0, none⟩ : Addr).add j = ⟨w.heap.size, j, none⟩ := by unfold Addr.add; split <;> simp_all
  rw [ea]
  show (w.alloc (.cells news.toArray t fr)).cell? ⟨w.heap.size, j, none⟩ = some x
  rw [cell_of_row _ _ j _ _ _ (heap_alloc_new w _)]
  simpa using hx
/-- Two cells of one block. -/
structure Two2 (W : World) (b o1 o2 : Nat) (u1 u2 : Value) : Prop where
  c1 : W.cell? ⟨b, o1, none⟩ = some u1
  c2 : W.cell? ⟨b, o2, none⟩ = some u2
theorem Two2.next {W W' : World} {b o1 o2 : Nat} {u1 u2 : Value} (h : Two2 W b o1 o2 u1 u2) (hb : Below W.heap.size W W') : Two2 W' b o1 o2 u1 u2 :=
  ⟨(hb.cell (p := ⟨b, o1, none⟩) (World.block_lt_of_cell? W _ h.c1)).trans h.c1, (hb.cell (p := ⟨b, o2, none⟩) (World.block_lt_of_cell? W _ h.c2)).trans h.c2⟩
theorem Two2.grew {W W' : World} {b o1 o2 : Nat} {u1 u2 v v' : Value} (h : Two2 W b o1 o2 u1 u2) (hg : Grew W W' v v') (hv : v.ownBlock ≠ some b) : Two2 W' b o1 o2 u1 u2 := ⟨hg.cell h.c1 hv, hg.cell h.c2 hv⟩
theorem Two2.alloc {W : World} {b o1 o2 : Nat} {u1 u2 : Value} (h : Two2 W b o1 o2 u1 u2) (ob : Obj) : Two2 (W.alloc ob) b o1 o2 u1 u2 := h.next ((Below.refl _ _).alloc (Nat.le_refl _) _)
def strs (L : List (List UInt8)) : List Value := L.map fun s => .string (mkS s)
theorem Tryz.infoString : (Tryz.prog.info? 9).map (fun i => (i.zero, i.size, i.bytes)) = some (some (.string ⟨#[]⟩), 1, 16) := by kernel_rfl
def GatherR (w : World) (l : List Exp) (t3 t4 : Value) (wr : World) : Prop :=
  ∃ j : Nat, j ≤ l.length ∧ t4 = .int .i64 (j : Int) ∧ wr.ownsRow w.heap.size 25 7 t3 (setK l j).length (expCells (setK l j)) ∧ Below w.heap.size w wr
theorem Src.laidN {P : Program} (w : World) {size : Nat} {tx e' t : TypeId} (hk : P.underlying tx = some (.slice e')) (news : List Value) (m : Nat) (hl : news.length = m * size) (h1 : ∀ u ∈ news, u.oneCell' = true) (fr : Nat × Nat) {B : Nat} (hB : w.heap.size = B) (q : Nat) :
    Src P size tx (.slice (some ⟨B, 0, none⟩) m m) m news ((w.alloc (.cells news.toArray t fr)).drewN q) := by
  subst hB
  refine Src.ofSlice _ hk _ m m news hl (fun j x hx => ?_) h1
  have ea : (⟨w.heap.size, 0, none⟩ : Addr).add j = ⟨w.heap.size, j, none⟩ := by unfold Addr.add; split <;> simp_all
  rw [ea]
  show (w.alloc (.cells news.toArray t fr)).cell? ⟨w.heap.size, j, none⟩ = some x
  rw [cell_of_row _ _ j _ _ _ (heap_alloc_new w _)]
  simpa using hx
theorem dedup_len : ∀ (L : List (List UInt8)) {n : Nat}, L.length ≤ n → (dedupN L).length ≤ n
  | [], n, h => Nat.zero_le _
  | [x], n, h => h
  | x :: y :: l, n, h => by
    rw [dedupN]
    simp only [List.length_cons] at h
    have ih := dedup_len (y :: l) (n := n - 1) (by simp only [List.length_cons]; omega)
    split
    · omega
    · simp only [List.length_cons]; omega
def DedupR (w1 : World) (N : List (List UInt8)) (t5 t6 : Value) (wx : World) : Prop :=
  ∃ i : Nat, i ≤ N.length ∧ t6 = .int .i64 (i : Int) ∧ wx.ownsRow w1.heap.size 9 1 t5 (dedupN (N.take i)).length (strs (dedupN (N.take i))) ∧ Below w1.heap.size w1 wx
/-- The names of the nodes, in memory of the call's own. -/
def StrsEnd (w : World) (L : List (List UInt8)) (e : Ending) (w' : World) : Prop :=
  (∃ a cap, e = .returned (.slice a L.length cap) ∧ w'.ownsRow w.heap.size 9 1 (.slice a L.length cap) L.length (strs L)) ∧ Below w.heap.size w w'
set_option maxHeartbeats 8000000 in
set_option maxRecDepth 100000 in
theorem ref_knots (w : World) (p : Option Addr) (n cap : Nat) (l : List Exp) (h : ES w (.slice p n cap) l) (hl : l.length ≤ 4096) (hn : ∀ y ∈ l, y.name.length ≤ 255) :
    Calls Tryz.prog 21 #[.slice p n cap] w (StrsEnd w (knotsR 20000 l)) := by
  obtain rfl : l.length = n := by obtain ⟨p', cap', hv, -⟩ := h; cases hv; rfl
  obtain ⟨ie, hie, hiz, his, hib⟩ := info_parts Tryz.infoExport
  obtain ⟨is_, hse, hsz, hss, hsb⟩ := info_parts Tryz.infoString
  have H := hid (And.intro h (And.intro hn (And.intro (And.intro hie (And.intro hiz (And.intro his hib))) (And.intro hse (And.intro hsz (And.intro hss hsb))))))
  have h0 := own_lit w [nameX []] (by simp)
  have H0 := hid h0
  clear h hn hie hiz his hib hse hsz hss hsb h0
  go_enter Tryz.func21, Tryz.ntmps21
  go_wp2_with fail
  go_loopw [3, 4] (fun t3 t4 wr => GatherR w l t3 t4 wr) (fun _ t4 _ => l.length - (intOf t4).toNat)
  case atStart => exact ⟨0, Nat.zero_le _, rfl, H0.out, (Below.refl _ _).alloc (Nat.le_refl _) _⟩
  case round =>
    obtain ⟨j, hj, rfl, hown, hbl⟩ := hrel
    have hsl := setK_len l j
    obtain ⟨qa, qc, hv3⟩ := ownsRow_form hown
    subst hv3
    by_cases hlt : j < l.length
    · obtain ⟨x, hx⟩ : ∃ x, l[j]? = some x := ⟨_, List.getElem?_eq_getElem hlt⟩
      obtain ⟨g, off, rfl, c0, -⟩ := (H.out.1.below hbl).at hx
      obtain ⟨S0, hS0⟩ : ∃ S, S = setK l j := ⟨_, rfl⟩
      rw [← hS0] at hown hsl
      have hxn := H.out.2.1 x (List.mem_of_getElem? hx)
      have hgd : l.getD j Exp.zero = x := by rw [List.getD_eq_getElem?_getD, hx]; rfl
      have hz := hbl.size
      rcases Nat.eq_zero_or_pos j with hj0 | hj0
      · have HI := hid (And.intro hown (And.intro hbl (And.intro hS0 (And.intro hx (And.intro hgd hj0)))))
        have d1 : decide ((0 : Int) < (j : Int)) = false := by rw [decide_eq_false_iff_not]; omega
        have d1' : decide (0 < j) = false := by rw [decide_eq_false_iff_not]; omega
        rw [← hS0]
        clear hown hbl hS0 hx hgd hj0
        go_wp2_with (at_builtin; refine wpList_append_grew _ rfl _ _ _ _ rfl w.heap.size 25 ie _ 7 72 Tryz.underlying30 H.out.2.2.1.1 H.out.2.2.1.2.1 H.out.2.2.1.2.2.1 H.out.2.2.1.2.2.2 rfl _ S0.length (expCells S0) rfl (ownsRow_below HI.out.1 ((Below.refl _ _).alloc (Nat.le_refl _) _)) _ 1 (nameX x.name).cells rfl (Src.laid _ Tryz.underlying30 (nameX x.name).cells 1 rfl (by simp [Exp.cells, Value.oneCell']) (0, 0) (by simp)) ?c1a ?c1b ?c1c ?_)
        case c1a => exact Nat.le_trans (show S0.length + 1 ≤ 9000 by omega) (by decide)
        case c1b => omega
        case c1c => simp; omega
        intro v1 w1 ho1 hg1
        have hg1 : Grew wr w1 _ v1 := Grew.under ((Below.refl _ _).alloc (Nat.le_refl _) _) hg1
        have hb1 : Below w.heap.size w w1 := HI.out.2.1.trans (hg1.below hz (fun q hq => (HI.out.1.lt q hq).1))
        obtain ⟨S1, hS1⟩ : ∃ S, S = S0 ++ [nameX x.name] := ⟨_, rfl⟩
        have ho1 : w1.ownsRow w.heap.size 25 7 v1 S1.length (expCells S1) := by rw [hS1, expCells_snoc, List.length_append]; exact ho1
        have hs1 : S1.length ≤ 2 * j + 2 := by rw [hS1, List.length_append]; simp; omega
        have HE := hid (And.intro ho1 (And.intro hb1 hS1))
        clear ho1 hb1 hS1 hg1
        go_wp2_with fail
        go_roundw
        case rel => exact ⟨j + 1, by omega, by go_num, by
          have e : setK l (j + 1) = S1 := by rw [setK_step, ← HI.out.2.2.1, HE.out.2.2]; unfold roundK; rw [HI.out.2.2.2.2.1, HI.out.2.2.2.2.2, if_neg (by omega)]
          rw [e]; exact HE.out.1, HE.out.2.1⟩
        case measure => simp [intOf]; omega
      · obtain ⟨m, rfl⟩ : ∃ m, j = m + 1 := ⟨j - 1, by omega⟩
        obtain ⟨y, hy⟩ : ∃ y, l[m]? = some y := ⟨_, List.getElem?_eq_getElem (by omega)⟩
        obtain ⟨g', off', hgo, c9, -⟩ := (H.out.1.below hbl).at hy
        cases hgo
        have hyn := H.out.2.1 y (List.mem_of_getElem? hy)
        have hgy : l.getD m Exp.zero = y := by rw [List.getD_eq_getElem?_getD, hy]; rfl
        have hglt : g < w.heap.size := by
          obtain ⟨g2, off2, hg2, c8, -⟩ := H.out.1.at hx
          cases hg2
          exact World.block_lt_of_cell? w _ c8
        have hi0 : Two2 wr g (off + m * 7) (off + (m + 1) * 7) (.string (mkS y.name)) (.string (mkS x.name)) := ⟨c9, c0⟩
        have HI := hid (And.intro hown (And.intro hbl (And.intro hS0 (And.intro hx (And.intro hgd (And.intro hgy hi0))))))
        rw [← hS0]
        clear hown hbl hS0 hx hgd hj0 hy hgy hi0 c9
        go_wp2_with (at_builtin; refine wpList_append_grew _ rfl _ _ _ _ rfl w.heap.size 25 ie _ 7 72 Tryz.underlying30 H.out.2.2.1.1 H.out.2.2.1.2.1 H.out.2.2.1.2.2.1 H.out.2.2.1.2.2.2 rfl _ S0.length (expCells S0) rfl (ownsRow_below HI.out.1 ((Below.refl _ _).alloc (Nat.le_refl _) _)) _ 1 (nameX x.name).cells rfl (Src.laid _ Tryz.underlying30 (nameX x.name).cells 1 rfl (by simp [Exp.cells, Value.oneCell']) (0, 0) (by simp)) ?c2a ?c2b ?c2c ?_)
        case c2a => exact Nat.le_trans (show S0.length + 1 ≤ 9000 by omega) (by decide)
        case c2b => omega
        case c2c => simp; omega
        intro v1 w1 ho1 hg1
        have hg1 : Grew wr w1 _ v1 := Grew.under ((Below.refl _ _).alloc (Nat.le_refl _) _) hg1
        have hb1 : Below w.heap.size w w1 := HI.out.2.1.trans (hg1.below hz (fun q hq => (HI.out.1.lt q hq).1))
        obtain ⟨S1, hS1⟩ : ∃ S, S = S0 ++ [nameX x.name] := ⟨_, rfl⟩
        have ho1 : w1.ownsRow w.heap.size 25 7 v1 S1.length (expCells S1) := by rw [hS1, expCells_snoc, List.length_append]; exact ho1
        have hs1 : S1.length ≤ 2 * (m + 1) + 2 := by rw [hS1, List.length_append]; simp; omega
        obtain ⟨a1, p1, hv1⟩ := ownsRow_form ho1
        subst hv1
        obtain ⟨sh, hsh⟩ : ∃ sh, sh = shareL y.name x.name := ⟨_, rfl⟩
        have hi : Two2 w1 g (off + m * 7) (off + (m + 1) * 7) (.string (mkS y.name)) (.string (mkS x.name)) := HI.out.2.2.2.2.2.2.grew hg1 (fun e => by have := (HI.out.1.lt _ e).1; omega)
        have HE := hid (And.intro ho1 (And.intro hb1 (And.intro hS1 hsh)))
        have hzz := hb1.size
        clear ho1 hb1 hS1 hg1 hsh c0
        have q1 : (m : Int) + 1 < (l.length : Int) := by omega
        have q2 : (m : Int) < (l.length : Int) := by omega
        have q3 : (0 : Int) ≤ (m : Int) := by omega
        have q4 : (0 : Int) ≤ (m : Int) + 1 := by omega
        have q5 : IntKind.i64.wrap ((m : Int) + 1 - 1) = (m : Int) := (IntWalk.i64_in _ (by omega)).trans (by omega)
        have q6 : IntKind.i64.wrap (m : Int) = (m : Int) := IntWalk.i64_in _ (by omega)
        have q7 : ((m : Int) + 1).toNat = m + 1 := by omega
        have q8 : (m : Int) + 1 - 1 = (m : Int) := by omega
        go_wp2_with fail
        go_region_held3 (fun W => W.cell? ⟨g, off + m * 7, none⟩ = some (.string (mkS y.name)) ∧ W.cell? ⟨g, off + (m + 1) * 7, none⟩ = some (.string (mkS x.name)))
          (first | exact ⟨hi.c1, hi.c2⟩ | exact ⟨(hi.alloc _).c1, (hi.alloc _).c2⟩)
          (first
            | (go_at_call 22; (with_reducible refine (ref_share _ y.name x.name ?_ ?_).mono ?_); omega; omega; rintro e W2 ⟨rfl, hb2⟩; rw [← HE.out.2.2.2]; have hi : Two2 W2 g (off + m * 7) (off + (m + 1) * 7) (.string (mkS y.name)) (.string (mkS x.name)) := (hi.next (by repeat (first | exact Below.refl _ _ | refine below_drewX ?_ | refine below_drewNX ?_ _ | refine Below.alloc ?_ (by simp) _))).next hb2; have HC := hid (And.intro (ownsRow_below (ownsRow_below HE.out.1 (by repeat (first | exact Below.refl _ _ | refine below_drewX ?_ | refine below_drewNX ?_ _ | refine Below.alloc ?_ (by simp) _))) hb2) (belTo HE.out.2.1 HE.out.2.1.size (by repeat (first | exact Below.refl _ _ | refine below_drewX ?_ | refine below_drewNX ?_ _ | refine Below.alloc ?_ (by simp) _)) hb2)); clear hb2)
            | (refine step_grew _ rfl (.tmp 26) (.tmp 40) _ _ rfl w.heap.size 25 ie _ 7 72 Tryz.underlying30 H.out.2.2.1.1 H.out.2.2.1.2.1 H.out.2.2.1.2.2.1 H.out.2.2.1.2.2.2 rfl (.slice a1 S1.length p1) S1.length (expCells S1) rfl ?_ _ 1 (nameX sh).cells rfl ?_ ?_ ?_ ?_ ?_; exact ownsRow_below HC.out.1 (by repeat (first | exact Below.refl _ _ | refine below_drewX ?_ | refine below_drewNX ?_ _ | refine Below.alloc ?_ (by simp) _)); (first | exact Src.laidD _ Tryz.underlying30 (nameX sh).cells 1 rfl (by simp [Exp.cells, Value.oneCell']) (0, 0) (by simp) | exact Src.laid _ Tryz.underlying30 (nameX sh).cells 1 rfl (by simp [Exp.cells, Value.oneCell']) (0, 0) (by simp)); exact Nat.le_trans (show S1.length + 1 ≤ 9000 by omega) (by decide); omega; exact Nat.le_trans HC.out.2.size (bsz (by repeat (first | exact Below.refl _ _ | refine below_drewX ?_ | refine below_drewNX ?_ _ | refine Below.alloc ?_ (by simp) _))); intro v3 W3 ho3 hg3; have hi : Two2 W3 g (off + m * 7) (off + (m + 1) * 7) (.string (mkS y.name)) (.string (mkS x.name)) := (hi.next (by repeat (first | exact Below.refl _ _ | refine below_drewX ?_ | refine below_drewNX ?_ _ | refine Below.alloc ?_ (by simp) _))).grew hg3 (fun e => by have := (HC.out.1.lt _ e).1; omega); have G3 : Grew W2 W3 _ _ := Grew.under (by repeat (first | exact Below.refl _ _ | refine below_drewX ?_ | refine below_drewNX ?_ _ | refine Below.alloc ?_ (by simp) _)) hg3; have H3 := hid (And.intro ho3 (HC.out.2.trans (G3.below HC.out.2.size (fun q hq => (HC.out.1.lt q hq).1)))); clear ho3 hg3 G3)
            | fail "no call")
        all_goals
          clear hi q5 q6 q7 q8
          go_wp2_with fail
          go_roundw
          case rel => exact ⟨m + 1 + 1, by omega, by go_num, by
            have e : setK l (m + 1 + 1) = S1 ++ [nameX sh] := by rw [setK_step, ← HI.out.2.2.1, HE.out.2.2.1, HE.out.2.2.2]; unfold roundK; rw [HI.out.2.2.2.2.1, show m + 1 - 1 = m by omega, HI.out.2.2.2.2.2.1, if_pos (by omega)]; simp
            rw [e, expCells_snoc, List.length_append]; exact H3.out.1, H3.out.2⟩
          case measure => simp [intOf]; omega
    · obtain rfl : j = l.length := by omega
      have hF := hid (ES.of_owns hown (by omega))
      have HI := hid (And.intro hown hbl)
      have hz := hbl.size
      obtain ⟨S0, hS0⟩ : ∃ S, S = setK l l.length := ⟨_, rfl⟩
      have hS0l : S0.length ≤ 8193 := by rw [hS0]; omega
      have hC := fun (h1 : ES wr (.slice qa S0.length qc) S0) => ref_sorted 20000 wr (.slice qa S0.length qc) S0 h1 (by omega) (by omega)
      rw [← hS0] at hF HI ⊢
      have hpl : (sortedR 20000 S0).length = S0.length := (sortedR_perm 20000 S0).length_eq
      obtain ⟨T, hT⟩ : ∃ T, T = sortedR 20000 S0 := ⟨_, rfl⟩
      rw [← hT] at hC hpl
      have hkR : knotsR 20000 l = dedupN (T.map Exp.name) := by unfold knotsR; rw [← hS0, ← hT]
      have hTn : T.length ≤ 8193 := by omega
      have HT := hid (And.intro hkR hT)
      have HC := hid hC
      clear hown hbl hS0 hC hT hkR hpl hsl
      go_wp2_with fail
      refine (HC.out hF.out).mono ?_
      rintro e w1 ⟨v, rfl, ho1, hb1⟩
      obtain ⟨ta, tc, hv⟩ := ownsRow_form ho1
      subst hv
      have HE := hid (And.intro (ES.of_owns ho1 (by omega)) (HI.out.2.trans (hb1.mono hz)))
      have hz1 := hb1.size
      clear ho1 hb1
      rw [HT.out.1]
      obtain ⟨N, hN⟩ : ∃ N, N = T.map Exp.name := ⟨_, rfl⟩
      have hNl : N.length = T.length := by rw [hN, List.length_map]
      have HN := hid (And.intro hN hNl)
      rw [← hN]
      clear hN hNl
      go_wp2_with fail
      go_loopw [5, 6] (fun t5 t6 wx => DedupR w1 N t5 t6 wx) (fun _ t6 _ => T.length - (intOf t6).toNat)
      case atStart => exact ⟨0, Nat.zero_le _, rfl, World.ownsRow_nil _ _ _ _, Below.refl _ _⟩
      case round =>
        obtain ⟨i, hi, rfl, hown, hbl⟩ := hrel
        have hdl : (dedupN (N.take i)).length ≤ i := dedup_len _ (by rw [List.length_take]; omega)
        obtain ⟨D0, hD0⟩ : ∃ D, D = dedupN (N.take i) := ⟨_, rfl⟩
        rw [← hD0] at hown hdl
        obtain ⟨da, dc, hv5⟩ := ownsRow_form hown
        subst hv5
        have hNT := HN.out.2
        by_cases hlt : i < T.length
        · obtain ⟨x, hx⟩ : ∃ x, T[i]? = some x := ⟨_, List.getElem?_eq_getElem hlt⟩
          obtain ⟨g, off, rfl, c0, -⟩ := (HE.out.1.below hbl).at hx
          have hxN : N[i]? = some x.name := by rw [HN.out.1, List.getElem?_map, hx]; rfl
          have hstep := dedup_step hxN
          rw [← hD0] at hstep
          rcases Nat.eq_zero_or_pos i with hj0 | hj0
          · have d1 : ((i : Int) == 0) = true := by rw [beq_iff_eq]; omega
            rw [if_pos hj0] at hstep
            have hD0e : D0 = [] := by rw [hD0, hj0]; rfl
            have HS := hid (And.intro hown (And.intro hbl (And.intro hstep hD0e)))
            clear hown hbl hstep hD0e hD0 hxN hx hj0
            go_wp2_with fail
            go_quiet (fail)
            go_wp2_with (at_builtin; refine wpList_append_grew _ rfl _ _ _ _ rfl w1.heap.size 9 is_ _ 1 16 Tryz.underlying63 H.out.2.2.2.1 H.out.2.2.2.2.1 H.out.2.2.2.2.2.1 H.out.2.2.2.2.2.2 rfl (.slice da D0.length dc) D0.length (strs D0) rfl (ownsRow_below HS.out.1 (by repeat (first | exact Below.refl _ _ | refine below_drewX ?_ | refine below_drewNX ?_ _ | refine Below.alloc ?_ (by simp) _))) _ 1 [.string (mkS x.name)] rfl (Src.laidN _ Tryz.underlying63 [.string (mkS x.name)] 1 rfl (by simp [Value.oneCell']) (0, 0) (by simp) _) ?_ ?_ ?_ ?_)
            · exact Nat.le_trans (show D0.length + 1 ≤ 9000 by omega) (by decide)
            · omega
            · exact Nat.le_trans HS.out.2.1.size (bsz (by repeat (first | exact Below.refl _ _ | refine below_drewX ?_ | refine below_drewNX ?_ _ | refine Below.alloc ?_ (by simp) _)))
            intro v3 W3 ho3 hg3
            have G3 : Grew wr W3 _ _ := Grew.under (by repeat (first | exact Below.refl _ _ | refine below_drewX ?_ | refine below_drewNX ?_ _ | refine Below.alloc ?_ (by simp) _)) hg3
            have hb3 : Below w1.heap.size w1 W3 := HS.out.2.1.trans (G3.below HS.out.2.1.size (fun q hq => (HS.out.1.lt q hq).1))
            have H3 := hid (And.intro ho3 hb3)
            clear ho3 hg3 G3 hb3
            go_wp2_with fail
            go_roundw
            case rel => exact ⟨i + 1, by omega, by go_num, by
              have h3 := H3.out.1
              rw [HS.out.2.2.2] at h3
              rw [HS.out.2.2.1]; exact h3, H3.out.2⟩
            case measure => simp [intOf]; omega
          · obtain ⟨m, rfl⟩ : ∃ m, i = m + 1 := ⟨i - 1, by omega⟩
            obtain ⟨y, hy⟩ : ∃ y, T[m]? = some y := ⟨_, List.getElem?_eq_getElem (by omega)⟩
            obtain ⟨g', off', hgo, c9, -⟩ := (HE.out.1.below hbl).at hy
            cases hgo
            have hyN : N[m + 1 - 1]? = some y.name := by rw [show m + 1 - 1 = m by omega, HN.out.1, List.getElem?_map, hy]; rfl
            rw [if_neg (by omega), hyN] at hstep
            have d1 : (((m + 1 : Nat) : Int) == 0) = false := by rw [beq_eq_false_iff_ne]; omega
            have d1' : ((m : Int) + 1 == 0) = false := by rw [beq_eq_false_iff_ne]; omega
            have q1 : (m : Int) + 1 < (T.length : Int) := by omega
            have q2 : (m : Int) < (T.length : Int) := by omega
            have q3 : (0 : Int) ≤ (m : Int) := by omega
            have q4 : (0 : Int) ≤ (m : Int) + 1 := by omega
            have q5 : IntKind.i64.wrap ((m : Int) + 1 - 1) = (m : Int) := (IntWalk.i64_in _ (by omega)).trans (by omega)
            have q6 : IntKind.i64.wrap (m : Int) = (m : Int) := IntWalk.i64_in _ (by omega)
            have q7 : ((m : Int) + 1).toNat = m + 1 := by omega
            have q8 : (m : Int) + 1 - 1 = (m : Int) := by omega
            by_cases hxy : y.name = x.name
            · have t1 : (x.name == y.name) = true := by rw [hxy]; exact beq_self_eq_true _
              have t2 : (x.name != y.name) = false := by rw [hxy]; simp
              rw [if_pos (by rw [hxy])] at hstep
              have HS := hid (And.intro hown (And.intro hbl (And.intro hstep hD0)))
              clear hown hbl hstep hD0 hxN hx hj0 hxy hyN hy
              go_wp2_with fail
              go_quiet (fail)
              go_wp2_with fail
              clear q5 q6 q7 q8
              go_roundw
              case rel => exact ⟨m + 1 + 1, by omega, by go_num, by rw [HS.out.2.2.1]; exact ownsRow_below HS.out.1 (by repeat (first | exact Below.refl _ _ | refine below_drewX ?_ | refine below_drewNX ?_ _ | refine Below.alloc ?_ (by simp) _)), HS.out.2.1.trans ((show Below _ _ _ from (by repeat (first | exact Below.refl _ _ | refine below_drewX ?_ | refine below_drewNX ?_ _ | refine Below.alloc ?_ (by simp) _))).mono HS.out.2.1.size)⟩
              case measure => simp [intOf]; omega
            · have t1 : (x.name == y.name) = false := by rw [beq_eq_false_iff_ne]; intro e; exact hxy e.symm
              have t2 : (x.name != y.name) = true := by rw [bne_iff_ne]; intro e; exact hxy e.symm
              rw [if_neg (by intro e; exact hxy (Option.some.inj e))] at hstep
              have HS := hid (And.intro hown (And.intro hbl (And.intro hstep hD0)))
              clear hown hbl hstep hD0 hxN hx hj0 hxy hyN hy
              go_wp2_with fail
              go_quiet (fail)
              go_wp2_with (at_builtin; refine wpList_append_grew _ rfl _ _ _ _ rfl w1.heap.size 9 is_ _ 1 16 Tryz.underlying63 H.out.2.2.2.1 H.out.2.2.2.2.1 H.out.2.2.2.2.2.1 H.out.2.2.2.2.2.2 rfl (.slice da D0.length dc) D0.length (strs D0) rfl (ownsRow_below HS.out.1 (by repeat (first | exact Below.refl _ _ | refine below_drewX ?_ | refine below_drewNX ?_ _ | refine Below.alloc ?_ (by simp) _))) _ 1 [.string (mkS x.name)] rfl (Src.laidN _ Tryz.underlying63 [.string (mkS x.name)] 1 rfl (by simp [Value.oneCell']) (0, 0) (by simp) _) ?_ ?_ ?_ ?_)
              · exact Nat.le_trans (show D0.length + 1 ≤ 9000 by omega) (by decide)
              · omega
              · exact Nat.le_trans HS.out.2.1.size (bsz (by repeat (first | exact Below.refl _ _ | refine below_drewX ?_ | refine below_drewNX ?_ _ | refine Below.alloc ?_ (by simp) _)))
              intro v3 W3 ho3 hg3
              have G3 : Grew wr W3 _ _ := Grew.under (by repeat (first | exact Below.refl _ _ | refine below_drewX ?_ | refine below_drewNX ?_ _ | refine Below.alloc ?_ (by simp) _)) hg3
              have hb3 : Below w1.heap.size w1 W3 := HS.out.2.1.trans (G3.below HS.out.2.1.size (fun q hq => (HS.out.1.lt q hq).1))
              have H3 := hid (And.intro ho3 hb3)
              clear ho3 hg3 G3 hb3
              go_wp2_with fail
              go_roundw
              clear q5 q6 q7 q8
              case rel => exact ⟨m + 1 + 1, by omega, by go_num, by
                have h3 := H3.out.1
                rw [HS.out.2.2.1, List.length_append]
                unfold strs at h3 ⊢
                rw [List.map_append]; exact h3, H3.out.2⟩
              case measure => simp [intOf]; omega
        · have hiT : i = N.length := by omega
          have hfin : D0 = dedupN N := by rw [hD0, List.take_of_length_le (by omega)]
          rw [hfin] at hown ⊢
          have HS := hid (And.intro hown hbl)
          clear hown hbl hfin hD0 hiT
          go_wp2_with fail
          go_ret
          rw [show knotsR 20000 l = dedupN N by rw [HT.out.1, ← HN.out.1]]
          exact ⟨⟨da, dc, rfl, ownsRow_base HS.out.1 HE.out.2.size⟩, HE.out.2.trans (HS.out.2.mono HE.out.2.size)⟩
end Go.Proofs.YthhjdkcnkdffcaaGreat

namespace Go.Proofs.YthhjdkcnkdffcaaGreat
set_option linter.unusedSimpArgs false
set_option linter.unusedVariables false
open Go.RowKit
theorem ES.ptr {w : World} {pa : Option Addr} {n cap : Nat} {x : Exp} {l : List Exp} (h : ES w (.slice pa n cap) (x :: l)) : ∃ g off, pa = some ⟨g, off, none⟩ ∧ SP w (.pointer (some ⟨g, off, none⟩)) (some x) := by
  obtain ⟨a', cap', he, h1, h2, h3⟩ := h
  cases he
  obtain ⟨g, off, rfl, hc⟩ := h3 (by simp)
  exact ⟨g, off, rfl, g, off, rfl, fun c u hu => by have := hc 0 x rfl c u hu; simpa using this⟩
theorem frozen_below {W W' : World} {b i : Nat} (h : W.frozen? ⟨b, i, none⟩ = false) (hb : W'.heap[b]? = W.heap[b]?) : W'.frozen? ⟨b, i, none⟩ = false := by
  unfold World.frozen? at h ⊢
  simp only [hb]; exact h
theorem infoKid : (Tryz.prog.info? 193).map (fun i => (i.zero, i.size, i.bytes)) = some (some (.agg #[.string ⟨#[]⟩, .int .i64 0]), 2, 24) := by kernel_rfl
end Go.Proofs.YthhjdkcnkdffcaaGreat
