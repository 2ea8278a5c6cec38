/- Chapter 11 at the laws' image: image.Low, High; export.may, export.At. -/
import Derived.Test.YthhjdkcnkdffcaaGreatZExP
import Derived.Test.YthhjdkcnkdffcaaGreatZLebM
import Derived.Test.YthhjdkcnkdffcaaGreatZImA
import Derived.Deep.RegionHeld3
import Derived.Deep.CutRange
namespace Go.Proofs.YthhjdkcnkdffcaaGreat
set_option linter.unusedSimpArgs false
set_option linter.unusedVariables false
open Go.RowKit
attribute [local go_sem ↓] old_img
attribute [local go_sem] big_img

theorem low_segP (q : Option Addr) : lowM [segP q] = 4096 := by simp [lowM, holeM, segP]
theorem high_segP (q : Option Addr) : highM [segP q] = 8192 := by simp [highM, highS, holeM, segP]

theorem ex_low (w : World) (I : Array Value) (nt ns nr : Nat) (h : PlainI w I nt ns nr) : Calls Tryz.prog 34 #[.agg I] w fun e w' => e = .returned (.int .u64 4096) ∧ Below w.heap.size w w' := by
  obtain ⟨v, q, h1, h2⟩ := h.segs
  refine (im_low w I v _ ⟨h.ok.1, h1⟩ h2).mono ?_
  rintro e w' ⟨rfl, hb⟩
  rw [low_segP]
  exact ⟨rfl, hb⟩
theorem ex_high (w : World) (I : Array Value) (nt ns nr : Nat) (h : PlainI w I nt ns nr) : Calls Tryz.prog 40 #[.agg I] w fun e w' => e = .returned (.int .u64 8192) ∧ Below w.heap.size w w' := by
  obtain ⟨v, q, h1, h2⟩ := h.segs
  refine (im_high w I v _ ⟨h.ok.1, h1⟩ h2).mono ?_
  rintro e w' ⟨rfl, hb⟩
  rw [high_segP]
  exact ⟨rfl, hb⟩

/-- What stands while 'may' goes on. -/
structure MayIn (w W : World) (I X : Array Value) (nt ns nr : Nat) : Prop where
  plain : PlainI W I nt ns nr
  below : Below w.heap.size w W
  img : W.heap[w.heap.size]? = some (.cells I 38 (0, 0))
  exp : W.heap[w.heap.size + 1]? = some (.cells X 25 (0, 0))
theorem MayIn.all {w W : World} {I X : Array Value} {nt ns nr : Nat} (h : MayIn w W I X nt ns nr) : rowA W ⟨w.heap.size, 0, none⟩ 24 = some I := rowA_block h.img h.plain.ok.1
theorem MayIn.next {w W W' : World} {I X : Array Value} {nt ns nr : Nat} (h : MayIn w W I X nt ns nr) (hb : Below W.heap.size W W') : MayIn w W' I X nt ns nr :=
  ⟨h.plain.below hb, h.below.trans (hb.mono h.below.size), (hb.block _ (Array.getElem?_eq_some_iff.1 h.img).1).trans h.img, (hb.block _ (Array.getElem?_eq_some_iff.1 h.exp).1).trans h.exp⟩
theorem MayIn.start {w : World} {I : Array Value} {nt ns nr : Nat} (X : Array Value) (h : PlainI w I nt ns nr) : MayIn w ((w.alloc (.cells I 38)).alloc (.cells X 25)) I X nt ns nr := by
  have hb : Below w.heap.size w ((w.alloc (.cells I 38)).alloc (.cells X 25)) := ((Below.refl _ _).alloc (Nat.le_refl _) _).alloc (by simp) _
  exact ⟨h.below hb, hb, heap_alloc2_old w _ _, heap_alloc2_new w _ _⟩
theorem MayIn.drew {w W : World} {I X : Array Value} {nt ns nr : Nat} (h : MayIn w W I X nt ns nr) : MayIn w W.drew I X nt ns nr :=
  h.next (below_drewP (Below.refl _ _))
theorem MayIn.deps {w W : World} {I X : Array Value} {nt ns nr : Nat} (h : MayIn w W I X nt ns nr) : ∃ q, W.cell? ⟨w.heap.size, 5, none⟩ = some (.slice q 1 1) := by
  obtain ⟨q, hq⟩ := h.plain.deps
  exact ⟨q, (cell_of_row _ _ 5 _ _ _ h.img).trans hq⟩

/-- The cells of an export that was laid. -/
theorem exp_at {W : World} {B : Nat} {X : Array Value} {t : TypeId} (x : Exp) (hX : X = x.cells.toArray) (h : W.heap[B]? = some (.cells X t (0, 0))) :
    W.cell? ⟨B, 0, none⟩ = some (.string (mkS x.name)) ∧ W.cell? ⟨B, 1, none⟩ = some (.int .i64 x.kind) ∧ W.cell? ⟨B, 2, none⟩ = some (.bool x.weak) ∧ W.cell? ⟨B, 3, none⟩ = some (.int .u64 (x.value : Int)) ∧ W.cell? ⟨B, 4, none⟩ = some (.int .u64 (x.resolver : Int)) ∧ W.cell? ⟨B, 5, none⟩ = some (.int .u64 (x.ordinal : Int)) ∧ W.cell? ⟨B, 6, none⟩ = some (.string (mkS x.other)) := by
  subst hX
  exact ⟨cell_of_row _ _ 0 _ _ _ h, cell_of_row _ _ 1 _ _ _ h, cell_of_row _ _ 2 _ _ _ h, cell_of_row _ _ 3 _ _ _ h, cell_of_row _ _ 4 _ _ _ h, cell_of_row _ _ 5 _ _ _ h, cell_of_row _ _ 6 _ _ _ h⟩

theorem dec_le (a b : Nat) : decide ((a : Int) ≤ (b : Int)) = decide (a ≤ b) := by rw [decide_eq_decide]; omega

set_option maxHeartbeats 2000000 in
theorem ex_may (w : World) (I : Array Value) (nt ns nr : Nat) (x : Exp) (h : PlainI w I nt ns nr) :
    Calls Tryz.prog 26 #[.agg I, .agg x.cells.toArray] w fun e w' => e = .returned (.int .i64 (mayX x : Int)) ∧ Below w.heap.size w w' := by
  obtain ⟨X, hX⟩ : ∃ X, X = x.cells.toArray := ⟨_, rfl⟩
  rw [← hX]
  have hi := MayIn.start X h
  have hm : ∀ m : Nat, mayX x = m → Ending.returned (Value.int .i64 (m : Int)) = .returned (.int .i64 (mayX x : Int)) := fun m e => by rw [e]
  have H := hid (And.intro h (And.intro hi (And.intro hX hm)))
  have hw : IntKind.u64.wrap ((8192 : Int) - 4096) = 4096 := by decide
  have hw2 : IntKind.u64.wrap 4096 = 4096 := by decide
  clear h hi hX hm
  go_enter Tryz.func26, Tryz.ntmps26
  go_upto_region 1 with fail
  have hi := H.out.2.1.drew
  go_cut [5] (fun t5 wx => t5 = .int .u64 4096 ∧ MayIn w wx I X nt ns nr)
  case first =>
    go_region_held3 (fun w' => rowA w' ⟨w.heap.size, 0, none⟩ 24 = some I) (exact hi.all)
      (first
        | (go_at_call 40; (with_reducible refine (ex_high _ I nt ns nr hi.plain).mono ?_); rintro e w1 ⟨rfl, hb⟩; have hi := hi.next hb; clear hb)
        | (go_at_call 34; (with_reducible refine (ex_low _ I nt ns nr hi.plain).mono ?_); rintro e w1 ⟨rfl, hb⟩; have hi := hi.next hb; clear hb)
        | fail "no call")
    all_goals
      go_wp2_with fail
      go_meet
      exact ⟨rfl, hi⟩
  case rest =>
    obtain ⟨rfl, hi⟩ := hcut
    obtain ⟨c0, c1, c2, c3, c4, c5, c6⟩ := exp_at x H.out.2.2.1 hi.exp
    obtain ⟨qd, cd⟩ := hi.deps
    have Hi := hid hi
    have hm := H.out.2.2.2
    clear hi hw hw2
    have Hm := hid hm
    clear hm
    by_cases k4 : x.kind = 4
    · have b4 : (x.kind == 4) = true := by rw [beq_iff_eq]; exact k4
      by_cases v4 : 4096 ≤ x.value
      · have d1 : decide ((4096 : Int) ≤ (x.value : Int)) = true := decide_eq_true (by omega)
        have d2 : decide (4096 ≤ x.value) = true := decide_eq_true v4
        have e := Hm.out 4 (by unfold mayX; rw [if_pos k4, if_pos (.inl v4)])
        have He := hid e
        clear e
        go_wp2_with fail
        go_ret
        exact ⟨He.out, Hi.out.below⟩
      · have d1 : decide ((4096 : Int) ≤ (x.value : Int)) = false := decide_eq_false (by omega)
        have d2 : decide (4096 ≤ x.value) = false := decide_eq_false v4
        by_cases r4 : 4096 ≤ x.resolver
        · have d3 : decide ((4096 : Int) ≤ (x.resolver : Int)) = true := decide_eq_true (by omega)
          have d4 : decide (4096 ≤ x.resolver) = true := decide_eq_true r4
          have e := Hm.out 4 (by unfold mayX; rw [if_pos k4, if_pos (.inr r4)])
          have He := hid e
          clear e
          go_wp2_with fail
          go_ret
          exact ⟨He.out, Hi.out.below⟩
        · have d3 : decide ((4096 : Int) ≤ (x.resolver : Int)) = false := decide_eq_false (by omega)
          have d4 : decide (4096 ≤ x.resolver) = false := decide_eq_false r4
          have e := Hm.out 0 (by unfold mayX; rw [if_pos k4, if_neg (by omega)])
          have He := hid e
          clear e
          go_wp2_with fail
          go_ret
          exact ⟨He.out, Hi.out.below⟩
    · have b4 : (x.kind == 4) = false := by rw [beq_eq_false_iff_ne]; exact k4
      by_cases k1 : x.kind = 1
      · have b1 : (x.kind == 1) = true := by rw [beq_iff_eq]; exact k1
        by_cases v4 : 4096 ≤ x.value
        · have d1 : decide ((4096 : Int) ≤ (x.value : Int)) = true := decide_eq_true (by omega)
          have d2 : decide (4096 ≤ x.value) = true := decide_eq_true v4
          have e := Hm.out 4 (by unfold mayX; rw [if_neg k4, if_pos k1, if_pos v4])
          have He := hid e
          clear e
          go_wp2_with fail
          go_ret
          exact ⟨He.out, Hi.out.below⟩
        · have d1 : decide ((4096 : Int) ≤ (x.value : Int)) = false := decide_eq_false (by omega)
          have d2 : decide (4096 ≤ x.value) = false := decide_eq_false v4
          have e := Hm.out 0 (by unfold mayX; rw [if_neg k4, if_pos k1, if_neg v4])
          have He := hid e
          clear e
          go_wp2_with fail
          go_ret
          exact ⟨He.out, Hi.out.below⟩
      · have b1 : (x.kind == 1) = false := by rw [beq_eq_false_iff_ne]; exact k1
        by_cases k3 : x.kind = 3
        · have b3 : (x.kind == 3) = true := by rw [beq_iff_eq]; exact k3
          by_cases o0 : x.ordinal < 1
          · have d1 : decide ((x.ordinal : Int) < 1) = true := decide_eq_true (by omega)
            have d2 : decide (x.ordinal < 1) = true := decide_eq_true o0
            have e := Hm.out 22 (by unfold mayX; rw [if_neg k4, if_neg k1, if_pos k3, if_pos (by omega)])
            have He := hid e
            clear e
            go_wp2_with fail
            go_ret
            exact ⟨He.out, Hi.out.below⟩
          · have d1 : decide ((x.ordinal : Int) < 1) = false := decide_eq_false (by omega)
            have d2 : decide (x.ordinal < 1) = false := decide_eq_false o0
            by_cases o1 : 1 < x.ordinal
            · have d3 : decide ((1 : Int) < (x.ordinal : Int)) = true := decide_eq_true (by omega)
              have d4 : decide (1 < x.ordinal) = true := decide_eq_true o1
              have e := Hm.out 22 (by unfold mayX; rw [if_neg k4, if_neg k1, if_pos k3, if_pos (by omega)])
              have He := hid e
              clear e
              go_wp2_with fail
              go_ret
              exact ⟨He.out, Hi.out.below⟩
            · have d3 : decide ((1 : Int) < (x.ordinal : Int)) = false := decide_eq_false (by omega)
              have d4 : decide (1 < x.ordinal) = false := decide_eq_false o1
              have e := Hm.out 0 (by unfold mayX; rw [if_neg k4, if_neg k1, if_pos k3, if_neg (by omega)])
              have He := hid e
              clear e
              go_wp2_with fail
              go_ret
              exact ⟨He.out, Hi.out.below⟩
        · have b3 : (x.kind == 3) = false := by rw [beq_eq_false_iff_ne]; exact k3
          have e := Hm.out 0 (by unfold mayX; rw [if_neg k4, if_neg k1, if_neg k3])
          have He := hid e
          clear e
          go_wp2_with fail
          go_ret
          exact ⟨He.out, Hi.out.below⟩

set_option maxHeartbeats 2000000 in
theorem ex_at (w : World) (I : Array Value) (nt ns nr : Nat) (x : Exp) (slide : Nat) (h : PlainI w I nt ns nr) :
    Calls Tryz.prog 16 #[.agg I, .agg x.cells.toArray, .int .u64 (slide : Int)] w fun e w' => e = .returned (.int .u64 (atX x slide : Int)) ∧ Below w.heap.size w w' := by
  obtain ⟨X, hX⟩ : ∃ X, X = x.cells.toArray := ⟨_, rfl⟩
  rw [← hX]
  have hi := MayIn.start X h
  obtain ⟨c0, c1, c2, c3, c4, c5, c6⟩ := exp_at x hX hi.exp
  obtain ⟨Z, hZ⟩ : ∃ Z, Z = (4096 + slide + x.value) % 18446744073709551616 := ⟨_, rfl⟩
  obtain ⟨Y, hY⟩ : ∃ Y, Y = (4096 + slide) % 18446744073709551616 := ⟨_, rfl⟩
  have hw1 : IntKind.u64.wrap ((4096 : Int) + (slide : Int)) = (Y : Int) := by
    show ((4096 : Int) + (slide : Int)) % 18446744073709551616 = _
    omega
  have hw2 : IntKind.u64.wrap ((Y : Int) + (x.value : Int)) = (Z : Int) := by
    show ((Y : Int) + (x.value : Int)) % 18446744073709551616 = _
    omega
  have hm : ∀ m : Nat, atX x slide = m → Ending.returned (Value.int .u64 (m : Int)) = .returned (.int .u64 (atX x slide : Int)) := fun m e => by rw [e]
  have H := hid (And.intro h (And.intro hi (And.intro hX (And.intro hm hZ))))
  clear h hi hX hm hZ hY
  by_cases k1 : x.kind = 1 ∨ x.kind = 4
  · have He := hid (H.out.2.2.2.1 Z (by unfold atX; rw [if_pos k1]; exact H.out.2.2.2.2.symm))
    have hi := H.out.2.1.drew
    rcases k1 with k1 | k1
    · have b1 : (x.kind == 1) = true := by rw [beq_iff_eq]; exact k1
      clear k1
      go_enter Tryz.func16, Tryz.ntmps16
      go_wp2_with fail
      go_region_held3 (fun w' => rowA w' ⟨w.heap.size, 0, none⟩ 24 = some I ∧ w'.cell? ⟨w.heap.size + 1, 3, none⟩ = some (.int .u64 (x.value : Int))) (exact ⟨hi.all, (exp_at x H.out.2.2.1 hi.exp).2.2.2.1⟩)
        (first
          | (go_at_call 34; (with_reducible refine (ex_low _ I nt ns nr hi.plain).mono ?_); rintro e w1 ⟨rfl, hb⟩; have hi := hi.next hb; clear hb)
          | fail "no call")
      all_goals
        have Hi := hid hi.below
        clear hi
        go_wp2_with fail
        go_ret
        exact ⟨He.out, Hi.out⟩
    · have b1 : (x.kind == 1) = false := by rw [beq_eq_false_iff_ne, k1]; decide
      have b2 : (x.kind == 4) = true := by rw [beq_iff_eq]; exact k1
      clear k1
      go_enter Tryz.func16, Tryz.ntmps16
      go_wp2_with fail
      go_region_held3 (fun w' => rowA w' ⟨w.heap.size, 0, none⟩ 24 = some I ∧ w'.cell? ⟨w.heap.size + 1, 3, none⟩ = some (.int .u64 (x.value : Int))) (exact ⟨hi.all, (exp_at x H.out.2.2.1 hi.exp).2.2.2.1⟩)
        (first
          | (go_at_call 34; (with_reducible refine (ex_low _ I nt ns nr hi.plain).mono ?_); rintro e w1 ⟨rfl, hb⟩; have hi := hi.next hb; clear hb)
          | fail "no call")
      all_goals
        have Hi := hid hi.below
        clear hi
        go_wp2_with fail
        go_ret
        exact ⟨He.out, Hi.out⟩
  · have b1 : (x.kind == 1) = false := by rw [beq_eq_false_iff_ne]; omega
    have b4 : (x.kind == 4) = false := by rw [beq_eq_false_iff_ne]; omega
    by_cases k2 : x.kind = 2
    · have b2 : (x.kind == 2) = true := by rw [beq_iff_eq]; exact k2
      have He := hid (H.out.2.2.2.1 x.value (by unfold atX; rw [if_neg k1, if_pos k2]))
      clear k1 k2 hw1 hw2
      go_enter Tryz.func16, Tryz.ntmps16
      go_wp2_with fail
      go_ret
      exact ⟨He.out, H.out.2.1.below⟩
    · have b2 : (x.kind == 2) = false := by rw [beq_eq_false_iff_ne]; exact k2
      have He := hid (H.out.2.2.2.1 0 (by unfold atX; rw [if_neg k1, if_neg k2]))
      clear k1 k2 hw1 hw2
      go_enter Tryz.func16, Tryz.ntmps16
      go_wp2_with fail
      go_ret
      exact ⟨He.out, H.out.2.1.below⟩
end Go.Proofs.YthhjdkcnkdffcaaGreat

namespace Go.Proofs.YthhjdkcnkdffcaaGreat
set_option linter.unusedSimpArgs false
set_option linter.unusedVariables false
open Go.RowKit
attribute [local go_sem ↓] old_img
attribute [local go_sem] big_img

/-- The source of the laws' image. -/
def SrcOf (w : World) (t T N : List UInt8) (v : Value) : Prop :=
  (t ≠ [] ∧ ∃ p n c, v = .iface 98 (.agg #[.slice p n c]) ∧ BS w (.slice p n c) t) ∨
  (t = [] ∧ T ≠ [] ∧ ∃ p n c q m d, v = .iface 100 (.agg #[.int .u64 4096, .int .i64 1, .slice p n c, .slice q m d]) ∧ BS w (.slice p n c) T ∧ BS w (.slice q m d) N) ∨
  (t = [] ∧ T = [] ∧ v = .iface 102 (.agg #[]))
theorem SrcOf.below {w w' : World} {t T N : List UInt8} {v : Value} (h : SrcOf w t T N v) (hb : Below w.heap.size w w') : SrcOf w' t T N v := by
  rcases h with ⟨h1, p, n, c, h2, h3⟩ | ⟨h1, h2, p, n, c, q, m, d, h3, h4, h5⟩ | h
  · exact .inl ⟨h1, p, n, c, h2, h3.below hb⟩
  · exact .inr (.inl ⟨h1, h2, p, n, c, q, m, d, h3, h4.below hb, h5.below hb⟩)
  · exact .inr (.inr h)

theorem part_of (a b c : List UInt8) : ((a ++ (b ++ c)).drop a.length).take b.length = b := by
  rw [List.drop_left, List.take_left]
theorem part_t (t T N : List UInt8) : ((zeroP ++ t ++ T ++ N).drop 4096).take t.length = t := by
  have := part_of zeroP t (T ++ N)
  rw [zeroP_len] at this
  simpa only [List.append_assoc] using this
theorem part_T (t T N : List UInt8) : ((zeroP ++ t ++ T ++ N).drop (4096 + t.length)).take T.length = T := by
  have := part_of (zeroP ++ t) T N
  rw [List.length_append, zeroP_len] at this
  simpa only [List.append_assoc] using this
theorem part_N (t T N : List UInt8) : ((zeroP ++ t ++ T ++ N).drop (4096 + t.length + T.length)).take N.length = N := by
  have := part_of (zeroP ++ t ++ T) N []
  rw [List.length_append, List.length_append, zeroP_len] at this
  simpa only [List.append_assoc, List.append_nil] using this

/-- What stands while 'of' goes on: the image's box. -/
structure OfIn (w W : World) (I : Array Value) (nt ns nr : Nat) : Prop where
  plain : PlainI W I nt ns nr
  below : Below w.heap.size w W
  img : W.heap[w.heap.size]? = some (.cells I 38 (0, 0))
theorem OfIn.next {w W W' : World} {I : Array Value} {nt ns nr : Nat} (h : OfIn w W I nt ns nr) (hb : Below W.heap.size W W') : OfIn w W' I nt ns nr :=
  ⟨h.plain.below hb, h.below.trans (hb.mono h.below.size), (hb.block _ (Array.getElem?_eq_some_iff.1 h.img).1).trans h.img⟩
theorem OfIn.start {w : World} {I : Array Value} {nt ns nr : Nat} (h : PlainI w I nt ns nr) : OfIn w (w.alloc (.cells I 38)) I nt ns nr := by
  have hb : Below w.heap.size w (w.alloc (.cells I 38)) := (Below.refl _ _).alloc (Nat.le_refl _) _
  exact ⟨h.below hb, hb, heap_alloc_new w _⟩
theorem OfIn.drew {w W : World} {I : Array Value} {nt ns nr : Nat} (h : OfIn w W I nt ns nr) : OfIn w W.drew I nt ns nr :=
  h.next (below_drewP (Below.refl _ _))
theorem OfIn.row {w W : World} {I : Array Value} {nt ns nr : Nat} (h : OfIn w W I nt ns nr) : rowA W ⟨w.heap.size, 0, none⟩ 24 = some I := rowA_block h.img h.plain.ok.1
theorem OfIn.cells {w W : World} {I : Array Value} {nt ns nr : Nat} (h : OfIn w W I nt ns nr) : W.cell? ⟨w.heap.size, 14, none⟩ = some (.int .u64 4096) ∧ W.cell? ⟨w.heap.size, 15, none⟩ = some (.int .u64 (nt : Int)) ∧
    W.cell? ⟨w.heap.size, 18, none⟩ = some (.int .u64 ((4096 + nt : Nat) : Int)) ∧ W.cell? ⟨w.heap.size, 19, none⟩ = some (.int .u64 (ns : Int)) ∧ W.cell? ⟨w.heap.size, 20, none⟩ = some (.int .u64 ((4096 + nt + ns : Nat) : Int)) ∧ W.cell? ⟨w.heap.size, 21, none⟩ = some (.int .u64 (nr : Int)) :=
  ⟨(cell_of_row _ _ 14 _ _ _ h.img).trans h.plain.trie.1, (cell_of_row _ _ 15 _ _ _ h.img).trans h.plain.trie.2, (cell_of_row _ _ 18 _ _ _ h.img).trans h.plain.syms.1, (cell_of_row _ _ 19 _ _ _ h.img).trans h.plain.syms.2, (cell_of_row _ _ 20 _ _ _ h.img).trans h.plain.strs.1, (cell_of_row _ _ 21 _ _ _ h.img).trans h.plain.strs.2⟩

set_option maxHeartbeats 4000000 in
set_option maxRecDepth 4000 in
theorem ex_of (w : World) (p : Option Addr) (n cap : Nat) (I : Array Value) (t T N : List UInt8) (hs : BS w (.slice p n cap) (zeroP ++ t ++ T ++ N)) (h : PlainI w I t.length T.length N.length) (hn : n ≤ 9000000) :
    Calls Tryz.prog 25 #[.slice p n cap, .agg I] w fun e w' => (∃ v, e = .returned v ∧ SrcOf w' t T N v) ∧ Below w.heap.size w w' := by
  obtain ⟨nt, hnt⟩ : ∃ k, k = t.length := ⟨_, rfl⟩
  obtain ⟨ns, hns⟩ : ∃ k, k = T.length := ⟨_, rfl⟩
  obtain ⟨nr, hnr⟩ : ∃ k, k = N.length := ⟨_, rfl⟩
  rw [← hnt, ← hns, ← hnr] at h
  have hln : 4096 + nt + ns + nr = n := by
    have := hs.len
    rw [List.length_append, List.length_append, List.length_append, zeroP_len] at this
    omega
  obtain ⟨L, hL⟩ : ∃ L, L = zeroP ++ t ++ T ++ N := ⟨_, rfl⟩
  have qt := part_t t T N
  have qT := part_T t T N
  have qN := part_N t T N
  rw [← hL] at hs qt qT qN
  rw [← hnt] at qt qT qN
  rw [← hns] at qT qN
  rw [← hnr] at qN
  have hi := OfIn.start h
  obtain ⟨v, q, g4, hsg⟩ := h.segs
  obtain ⟨pv, cv, hv⟩ := hsg.form
  have hl1 : [segP q].length = 1 := rfl
  rw [hl1] at hv
  subst hv
  have c4 : (w.alloc (.cells I 38)).cell? ⟨w.heap.size, 4, none⟩ = some (.slice pv 1 cv) := (cell_of_row _ _ 4 _ _ _ hi.img).trans g4
  have H := hid (And.intro hs (And.intro hi (And.intro hsg (And.intro hL (And.intro hnt (And.intro hns (And.intro hnr (And.intro qt (And.intro qT qN)))))))))
  clear hs hi hsg hL hnt hns hnr qt qT qN h g4
  go_enter Tryz.func25, Tryz.ntmps25
  go_wp2_with fail
  clear c4
  go_loopw [5, 11] (fun s i wr => ∃ k : Nat, k ≤ 1 ∧ i = .int .i64 (k : Int) ∧ s = .int .i64 (k : Int) ∧ OfIn w wr I nt ns nr) (fun _ i _ => 1 - (intOf i).toNat)
  case atStart => exact ⟨0, by omega, rfl, rfl, H.out.2.1⟩
  case round =>
    obtain ⟨k, hk, rfl, rfl, hi⟩ := hrel
    by_cases hlt : k < 1
    · obtain rfl : k = 0 := by omega
      obtain ⟨g, off, rfl, hcs⟩ := (H.out.2.2.1.below hi.below).at (by simp)
      obtain ⟨x0, x1, x2, x3, x4, x5, x6⟩ := hcs 0 _ rfl
      rw [Nat.zero_mul, Nat.add_zero] at x0 x1 x2 x3 x4 x5 x6
      unfold segP at x0 x1 x2 x3 x4 x5 x6
      have hn := hi.next ((Below.refl wr.heap.size wr).alloc (Nat.le_refl _) (.cells (segP q).cells 74))
      have Hi := hid hn
      clear hi hcs hn
      go_wp2_with fail
      exact ⟨⟨1, by omega, rfl, rfl, Hi.out⟩, by simp [intOf]⟩
    · obtain rfl : k = 1 := by omega
      obtain ⟨c14, c15, c18, c19, c20, c21⟩ := hi.cells
      obtain ⟨A, hA⟩ : ∃ A, A = 4096 + nt := ⟨_, rfl⟩
      obtain ⟨B, hB⟩ : ∃ B, B = 4096 + nt + ns := ⟨_, rfl⟩
      rw [← hA] at c18
      rw [← hB] at c20
      by_cases ht : nt = 0
      · have htn : t = [] := List.eq_nil_of_length_eq_zero (by have := H.out.2.2.2.2.1; omega)
        have e15 : wr.cell? ⟨w.heap.size, 15, none⟩ = some (.int .u64 0) := by rw [c15, ht]; rfl
        by_cases hT : ns = 0
        · have hTn : T = [] := List.eq_nil_of_length_eq_zero (by have := H.out.2.2.2.2.2.1; omega)
          have e19 : wr.cell? ⟨w.heap.size, 19, none⟩ = some (.int .u64 0) := by rw [c19, hT]; rfl
          have Hi := hid (And.intro hi (And.intro htn hTn))
          clear hi htn hTn c14 c15 c18 c19 c20 c21 ht hT
          go_wp2_with fail
          go_ret
          exact ⟨⟨_, rfl, .inr (.inr ⟨Hi.out.2.1, Hi.out.2.2, rfl⟩)⟩, Hi.out.1.below⟩
        · have d2 : decide ((0 : Int) < (ns : Int)) = true := decide_eq_true (by omega)
          have d3 : decide (0 < ns) = true := decide_eq_true (by omega)
          have hTn : T ≠ [] := fun e => hT (by have := H.out.2.2.2.2.2.1; rw [e] at this; exact this)
          have Hi := hid (And.intro hi (And.intro htn (And.intro hTn (And.intro hA hB))))
          have hAl : A + ns ≤ n := by omega
          have hBl : B + nr ≤ n := by omega
          have HB := hid (H.out.1.below hi.below)
          have HL := hid hln
          clear hi htn hTn c14 c15 ht hln hA hB hT
          go_upto_region 10 with fail
          have hi := Hi.out.1.drew
          have hsb : BS wr.drew (.slice p n cap) L := HB.out.below (below_drewP (Below.refl _ _))
          clear c18 c19 c20 c21 e15
          go_region_held3 (fun w' => rowA w' ⟨w.heap.size, 0, none⟩ 24 = some I ∧ w'.cell? ⟨w.heap.size, 18, none⟩ = some (.int .u64 (A : Int)) ∧ w'.cell? ⟨w.heap.size, 19, none⟩ = some (.int .u64 (ns : Int)) ∧ w'.cell? ⟨w.heap.size, 20, none⟩ = some (.int .u64 (B : Int)) ∧ w'.cell? ⟨w.heap.size, 21, none⟩ = some (.int .u64 (nr : Int))) (exact ⟨hi.row, by rw [Hi.out.2.2.2.1]; exact hi.cells.2.2.1, hi.cells.2.2.2.1, by rw [Hi.out.2.2.2.2]; exact hi.cells.2.2.2.2.1, hi.cells.2.2.2.2.2⟩)
            (first
              | (go_at_call 34; (with_reducible refine (ex_low _ I nt ns nr hi.plain).mono ?_); rintro e w1 ⟨rfl, hb⟩; have hi := hi.next hb; have hsb := hsb.below hb; clear hb)
              | (go_at_call 39; (with_reducible refine (im_part _ p n cap L A ns hsb hn hAl).mono ?_); rintro e w1 ⟨p1, m1, q1, rfl, hv1, hb⟩; have hi := hi.next hb; have hsb := hsb.below hb; clear hb)
              | (go_at_call 39; (with_reducible refine (im_part _ p n cap L B nr hsb hn hBl).mono ?_); rintro e w1 ⟨p2, m2, q2, rfl, hv2, hb⟩; have hi := hi.next hb; have hsb := hsb.below hb; have hv1 := hv1.below hb; clear hb)
              | fail "no call")
          all_goals
            rw [Hi.out.2.2.2.1, H.out.2.2.2.2.2.2.2.2.1] at hv1
            rw [Hi.out.2.2.2.2, H.out.2.2.2.2.2.2.2.2.2] at hv2
            have HE := hid (And.intro hi (And.intro hv1 hv2))
            clear hi hv1 hv2 hsb
            go_wp2_with fail
            go_ret
            exact ⟨⟨_, rfl, .inr (.inl ⟨Hi.out.2.1, Hi.out.2.2.1, p1, m1, q1, p2, m2, q2, rfl, HE.out.2.1, HE.out.2.2⟩)⟩, HE.out.1.below⟩
      · have d2 : decide ((0 : Int) < (nt : Int)) = true := decide_eq_true (by omega)
        have d3 : decide (0 < nt) = true := decide_eq_true (by omega)
        have htn : t ≠ [] := fun e => ht (by have := H.out.2.2.2.2.1; rw [e] at this; exact this)
        have Hi := hid (And.intro hi htn)
        have HB := hid (H.out.1.below hi.below)
        clear hi htn c18 c19 c20 c21
        go_wp2_with (first | (go_at_call 39; refine (im_part _ p n cap L 4096 nt HB.out hn (by omega)).mono ?_; rintro e w1 ⟨p1, m1, q1, rfl, hv, hb1⟩))
        have H1 := hid (And.intro hv hb1)
        clear hv hb1
        go_wp2_with fail
        go_ret
        refine ⟨⟨_, rfl, .inl ⟨Hi.out.2, p1, m1, q1, rfl, ?_⟩⟩, Hi.out.1.below.trans (H1.out.2.mono Hi.out.1.below.size)⟩
        have h1 := H1.out.1
        rw [H.out.2.2.2.2.2.2.2.1] at h1
        exact h1
end Go.Proofs.YthhjdkcnkdffcaaGreat

namespace Go.Proofs.YthhjdkcnkdffcaaGreat
set_option linter.unusedSimpArgs false
set_option linter.unusedVariables false
open Go.RowKit

set_option maxHeartbeats 2000000 in
set_option maxRecDepth 4000 in
theorem ex_export (w : World) (s : Sym) (a b : Option Addr) (na ca nb cb : Nat) :
    Calls Tryz.prog 169 #[.agg #[.int .u64 4096, .int .i64 1, .slice a na ca, .slice b nb cb], .agg s.cells.toArray] w fun e w' => e = .returned (.agg (exS s).cells.toArray) ∧ Below w.heap.size w w' := by
  obtain ⟨Z, hZ⟩ : ∃ Z, Z = (s.val + 18446744073709547520) % 18446744073709551616 := ⟨_, rfl⟩
  have hw : IntKind.u64.wrap ((s.val : Int) - 4096) = (Z : Int) := by
    show ((s.val : Int) - 4096) % 18446744073709551616 = _
    omega
  obtain ⟨W3, hW3⟩ : ∃ W, W = ((w.alloc (.cells #[.int .u64 4096, .int .i64 1, .slice a na ca, .slice b nb cb] 100)).alloc (.cells s.cells.toArray 62)) := ⟨_, rfl⟩
  unfold Sym.cells
  by_cases h0 : 0 < s.sect
  · have d0 : decide (0 < s.sect) = true := decide_eq_true h0
    have he : exS s = ⟨s.name, 1, s.weak, Z, 0, 0, []⟩ := by unfold exS; rw [if_pos h0, ← hZ]
    have H := hid he
    clear he hZ h0 hW3
    go_enter Tryz.func169, Tryz.ntmps169
    go_wp2_with fail
    go_region
    go_wp2_with fail
    refine bodyPost_ret (v := .agg #[.string (mkS s.name), .int .i64 1, .bool s.weak, .int .u64 (Z : Int), .int .u64 0, .int .u64 0, .string ⟨#[]⟩]) (by simp [results, Tryz.results169, go_sem]) rfl ?_
    rw [H.out]
    refine ⟨rfl, ?_⟩
    repeat first | exact Below.refl _ _ | refine Below.setCell ?_ (by simp; omega) _ | refine below_drewP ?_ | refine Below.alloc ?_ (by simp; omega) _ | refine Below.alloc ?_ (by simp) _
  · have d0 : decide (0 < s.sect) = false := decide_eq_false h0
    have he : exS s = ⟨s.name, 2, s.weak, s.val, 0, 0, []⟩ := by unfold exS; rw [if_neg h0]
    have H := hid he
    clear he hZ h0 hW3 hw
    go_enter Tryz.func169, Tryz.ntmps169
    go_wp2_with fail
    refine bodyPost_ret (v := .agg #[.string (mkS s.name), .int .i64 2, .bool s.weak, .int .u64 (s.val : Int), .int .u64 0, .int .u64 0, .string ⟨#[]⟩]) (by simp [results, Tryz.results169, go_sem]) rfl ?_
    rw [H.out]
    refine ⟨rfl, ?_⟩
    repeat first | exact Below.refl _ _ | refine Below.setCell ?_ (by simp; omega) _ | refine below_drewP ?_ | refine Below.alloc ?_ (by simp; omega) _ | refine Below.alloc ?_ (by simp) _

/-- 'nothing'. -/
theorem ex_no_all (w : World) : Calls Tryz.prog 177 #[.agg #[]] w fun e w' => e = .returned (.tuple #[.slice none 0 0, .int .i64 0]) ∧ Below w.heap.size w w' := by
  go_enter Tryz.func177, Tryz.ntmps177
  go_wp2_with fail
  go_ret2
  exact ⟨rfl, (Below.refl _ _).alloc (Nat.le_refl _) _⟩

theorem ex_no_find (w : World) (name : List UInt8) : Calls Tryz.prog 178 #[.agg #[], .string (mkS name)] w fun e w' => e = .returned (.tuple #[.agg Exp.zero.cells.toArray, .bool false, .int .i64 0]) ∧ Below w.heap.size w w' := by
  go_enter Tryz.func178, Tryz.ntmps178
  go_wp2_with fail
  refine bodyPost_ret (v := .tuple #[.agg Exp.zero.cells.toArray, .bool false, .int .i64 0]) (by simp [results, Tryz.results178, go_sem, Exp.cells, Exp.zero, mkS]) rfl ?_
  refine ⟨rfl, ?_⟩
  repeat first | exact Below.refl _ _ | refine Below.setCell ?_ (by simp; omega) _ | refine below_drewP ?_ | refine Below.alloc ?_ (by simp; omega) _ | refine Below.alloc ?_ (by simp) _
end Go.Proofs.YthhjdkcnkdffcaaGreat

namespace Go.Proofs.YthhjdkcnkdffcaaGreat
set_option linter.unusedSimpArgs false
set_option linter.unusedVariables false
open Go.RowKit

/-- A struct that is an export's. -/
def ExpOk (X : Array Value) : Prop := X.size = 7 ∧ X.all (·.oneCell') = true
theorem expOk (x : Exp) : ExpOk x.cells.toArray := ⟨rfl, by kernel_rfl⟩
theorem info_expX : (Tryz.prog.info? 25).map (·.size) = some 7 := by kernel_rfl
theorem old_sexp (a : Addr) (v : Value) : storeVar 25 a v = storeOld 25 a v := rfl
theorem big_sexp (a : Addr) (I : Array Value) (w : World) (h : ExpOk I) : (storeOld 25 a (.agg I)).run Tryz.prog w = storeRes Tryz.prog 25 a I w (fullA w a 25 7) := storeVar_big info_expX a I w h.1 h.2
theorem old_lexp (a : Addr) : loadVar 25 a = loadOld 25 a := rfl
theorem big_lexp (a : Addr) (w : World) : (loadOld 25 a).run Tryz.prog w = loadRes Tryz.prog 25 a w (rowA w a 7) := loadVar_big Tryz.underlying25 rfl (by kernel_rfl) a w
theorem old_cexp (a : Addr) : loadCellsFrom a 0 7 #[] = cellsOld a 7 := rfl
theorem big_cexp (a : Addr) (w : World) : (cellsOld a 7).run Tryz.prog w = cellsRes Tryz.prog a 7 w (rowA w a 7) := cells_big a 7 w

/-- The zero export. -/
def zeroX : Array Value := #[.string ⟨#[]⟩, .int .i64 0, .bool false, .int .u64 0, .int .u64 0, .int .u64 0, .string ⟨#[]⟩]
theorem zeroX_is : zeroX = Exp.zero.cells.toArray := rfl
theorem zeroX_ok : ExpOk zeroX := ⟨rfl, by kernel_rfl⟩

theorem big_zexp (a : Addr) (w : World) : (storeOld 25 a (.agg #[.string ⟨#[]⟩, .int .i64 0, .bool false, .int .u64 0, .int .u64 0, .int .u64 0, .string ⟨#[]⟩])).run Tryz.prog w = storeRes Tryz.prog 25 a zeroX w (fullA w a 25 7) := big_sexp a zeroX w zeroX_ok

/-- What stands where a struct of 7 cells was stored. -/
theorem exp_stored {w : World} {B : Nat} {c X : Array Value} {t : TypeId} (h : w.heap[B]? = some (.cells c t (0, 0))) (hX : ExpOk X) : rowA (w.setRow B X) ⟨B, 0, none⟩ 7 = some X := rowA_block (setRow_block h) hX.1
end Go.Proofs.YthhjdkcnkdffcaaGreat

namespace Go.Proofs.YthhjdkcnkdffcaaGreat
set_option linter.unusedSimpArgs false
set_option linter.unusedVariables false
open Go.RowKit
attribute [local go_sem ↓] old_img old_sexp old_lexp old_cexp
attribute [local go_sem] big_img big_sexp big_zexp big_lexp big_cexp

/-- What a source's 'find' answers. -/
def FindEnd (w : World) (r : Exp × Bool × Nat) (e : Ending) (w' : World) : Prop :=
  e = .returned (.tuple #[.agg r.1.cells.toArray, .bool r.2.1, .int .i64 (r.2.2 : Int)]) ∧ Below w.heap.size w w'

set_option maxHeartbeats 1000000 in
set_option maxRecDepth 4000 in
theorem ex_leaves_find (w : World) (p : Option Addr) (n c : Nat) (name : List UInt8) (r : Exp × Bool × Nat)
    (HL : ∀ w0 : World, Below w.heap.size w w0 → Calls Tryz.prog 105 #[.slice p n c, .string (mkS name)] w0 (FindEnd w0 r)) :
    Calls Tryz.prog 103 #[.agg #[.slice p n c], .string (mkS name)] w (FindEnd w r) := by
  obtain ⟨x, is, er⟩ := r
  have hok := expOk x
  have H := hid HL
  clear HL
  unfold FindEnd at *
  dsimp only at *
  generalize x.cells.toArray = X at H hok ⊢
  go_enter Tryz.func103, Tryz.ntmps103
  go_wp2_with fail
  refine (H.out _ (((Below.refl _ _).alloc (Nat.le_refl _) _).alloc (by simp) _)).mono ?_
  rintro e w1 ⟨rfl, hb⟩
  have hk := (hb.block (w.heap.size + 1) (by simp)).trans (heap_alloc2_new w _ _)
  have hf := fullA_block hk (n := 7) rfl
  have hr := exp_stored hk hok
  have hb0 : Below w.heap.size w w1 := (((Below.refl w.heap.size w).alloc (Nat.le_refl _) _).alloc (by simp) _).trans (hb.mono (by simp; omega))
  have HB := hid hb0
  clear hb hk hb0
  go_wp2_with fail
  refine bodyPost_ret (v := .tuple #[.agg X, .bool is, .int .i64 (er : Int)]) (by simp [results, Tryz.results103, go_sem, *]) rfl ?_
  exact ⟨rfl, Below.setRow HB.out (by omega) _⟩

set_option maxHeartbeats 1000000 in
set_option maxRecDepth 4000 in
/-- 'find' of a table, by what nlist.Find answers. -/
theorem ex_table_find (w : World) (p q : Option Addr) (n c m d : Nat) (name : List UInt8) (s : Sym) (is : Bool) (er : Nat)
    (HL : ∀ w0 : World, Below w.heap.size w w0 → Calls Tryz.prog 171 #[.slice p n c, .slice q m d, .int .i64 1, .string (mkS name)] w0 fun e w' => e = .returned (.tuple #[.agg s.cells.toArray, .bool is, .int .i64 (er : Int)]) ∧ Below w0.heap.size w0 w') :
    Calls Tryz.prog 167 #[.agg #[.int .u64 4096, .int .i64 1, .slice p n c, .slice q m d], .string (mkS name)] w (FindEnd w (if er ≠ 0 ∨ is = false then (Exp.zero, false, er) else (exS s, true, 0))) := by
  obtain ⟨R, hR⟩ : ∃ R : Exp × Bool × Nat, R = if er ≠ 0 ∨ is = false then (Exp.zero, false, er) else (exS s, true, 0) := ⟨_, rfl⟩
  rw [← hR]
  have HR := hid hR
  clear hR
  have HC := hid (fun w0 : World => ex_export w0 s p q n c m d)
  have hok := expOk (exS s)
  have hok0 := zeroX_ok
  obtain ⟨Z, hZ⟩ : ∃ Z, Z = (exS s).cells.toArray := ⟨_, rfl⟩
  rw [← hZ] at HC hok
  have hb2 : Below w.heap.size w ((w.alloc (.cells #[.int .u64 4096, .int .i64 1, .slice p n c, .slice q m d] 100)).alloc (.cells zeroX 25)) := ((Below.refl _ _).alloc (Nat.le_refl _) _).alloc (by simp) _
  have hA := heap_alloc2_old w (.cells #[.int .u64 4096, .int .i64 1, .slice p n c, .slice q m d] 100) (.cells zeroX 25)
  have hB := heap_alloc2_new w (.cells #[.int .u64 4096, .int .i64 1, .slice p n c, .slice q m d] 100) (.cells zeroX 25)
  have H := hid (And.intro HL (And.intro hb2 (And.intro hA (And.intro hB hZ))))
  clear HL hb2 hA hB hZ
  obtain ⟨sn, ss, sv, sw⟩ := s
  unfold Sym.cells at H HC
  dsimp only at H HC
  go_enter Tryz.func167, Tryz.ntmps167
  go_wp2_with fail
  refine (H.out.1 _ H.out.2.1).mono ?_
  rintro e w1 ⟨rfl, hb⟩
  have hz := hb.size
  simp only [World.size_alloc] at hz
  have kA := (hb.block w.heap.size (by simp; omega)).trans H.out.2.2.1
  have kB := (hb.block (w.heap.size + 1) (by simp)).trans H.out.2.2.2.1
  have a0 := cell_of_row _ _ 0 _ _ _ kA
  have a1 := cell_of_row _ _ 1 _ _ _ kA
  have a2 := cell_of_row _ _ 2 _ _ _ kA
  have a3 := cell_of_row _ _ 3 _ _ _ kA
  have l0 : w.heap.size < w1.heap.size := by omega
  have l1 : w.heap.size + 1 < w1.heap.size := by omega
  have hbw := H.out.2.1.trans (hb.mono (by simp; omega))
  have kB2 : (w1.alloc (.cells #[.string (mkS sn), .int .i64 ss, .int .u64 (sv : Int), .bool sw] 62)).heap[w.heap.size + 1]? = some (.cells zeroX 25 (0, 0)) := (Below.heap_alloc _ _ _ l1).trans kB
  have hbw2 := hbw.alloc (by omega) (.cells #[.string (mkS sn), .int .i64 ss, .int .u64 (sv : Int), .bool sw] 62)
  have HB := hid (And.intro kB2 hbw2)
  clear hb kA kB hbw kB2 hbw2
  by_cases he : er = 0
  · have de : ((er : Int) != 0) = false := by rw [he]; rfl
    cases is with
    | true =>
      go_wp2_with fail
      refine (HC.out _).mono ?_
      rintro e w2 ⟨rfl, hb⟩
      have k2 := (hb.block (w.heap.size + 1) (by simp; omega)).trans HB.out.1
      have hf := fullA_block k2 (n := 7) rfl
      have hr := exp_stored k2 hok
      have HD := hid (And.intro he (HB.out.2.trans (hb.mono (by simp; omega))))
      clear hb k2 a0 a1 a2 a3
      go_wp2_with fail
      refine bodyPost_ret (v := .tuple #[.agg Z, .bool true, .int .i64 0]) (by simp [results, Tryz.results167, go_sem, *]) rfl ?_
      rw [HR.out, if_neg (by simp [HD.out.1])]
      refine ⟨?_, Below.setRow HD.out.2 (by omega) _⟩
      rw [H.out.2.2.2.2]
      rfl
    | false =>
      have hf := fullA_block HB.out.1 (n := 7) rfl
      have hr := exp_stored HB.out.1 hok0
      have HD := hid he
      clear a0 a1 a2 a3
      go_wp2_with fail
      refine bodyPost_ret (v := .tuple #[.agg zeroX, .bool false, .int .i64 0]) (by simp [results, Tryz.results167, go_sem, *]) rfl ?_
      rw [HR.out, if_pos (by simp), HD.out]
      exact ⟨rfl, Below.setRow HB.out.2 (by omega) _⟩
  · have de : ((er : Int) != 0) = true := by rw [bne_iff_ne]; omega
    have hf := fullA_block HB.out.1 (n := 7) rfl
    have hr := exp_stored HB.out.1 hok0
    have HD := hid he
    clear a0 a1 a2 a3
    go_wp2_with fail
    refine bodyPost_ret (v := .tuple #[.agg zeroX, .bool false, .int .i64 (er : Int)]) (by simp [results, Tryz.results167, go_sem, *]) rfl ?_
    rw [HR.out, if_pos (.inl HD.out)]
    exact ⟨rfl, Below.setRow HB.out.2 (by omega) _⟩
end Go.Proofs.YthhjdkcnkdffcaaGreat

namespace Go.Proofs.YthhjdkcnkdffcaaGreat
set_option linter.unusedSimpArgs false
set_option linter.unusedVariables false
open Go.RowKit
attribute [local go_sem ↓] old_img old_sexp old_lexp old_cexp
attribute [local go_sem] big_img big_sexp big_zexp big_lexp big_cexp
attribute [local go_sem] fullA_last setRow_last

/-- What stands behind the source's answer. -/
structure FSt (w W : World) (I X : Array Value) (K nt ns nr : Nat) : Prop where
  plain : PlainI W I nt ns nr
  below : Below w.heap.size w W
  img : W.heap[w.heap.size]? = some (.cells I 38 (0, 0))
  res : W.heap[w.heap.size + 1]? = some (.cells zeroX 25 (0, 0))
  exp : W.heap[K]? = some (.cells X 25 (0, 0))
theorem FSt.next {w W W' : World} {I X : Array Value} {K nt ns nr : Nat} (h : FSt w W I X K nt ns nr) (hb : Below W.heap.size W W') : FSt w W' I X K nt ns nr :=
  ⟨h.plain.below hb, h.below.trans (hb.mono h.below.size), (hb.block _ (Array.getElem?_eq_some_iff.1 h.img).1).trans h.img, (hb.block _ (Array.getElem?_eq_some_iff.1 h.res).1).trans h.res, (hb.block _ (Array.getElem?_eq_some_iff.1 h.exp).1).trans h.exp⟩
theorem FSt.make {w W : World} {I X : Array Value} {nt ns nr : Nat} (hp : PlainI W I nt ns nr) (hb : Below w.heap.size w W) (h1 : W.heap[w.heap.size]? = some (.cells I 38 (0, 0))) (h2 : W.heap[w.heap.size + 1]? = some (.cells zeroX 25 (0, 0))) :
    FSt w (W.alloc (.cells X 25)) I X W.heap.size nt ns nr := by
  have hb2 : Below W.heap.size W (W.alloc (.cells X 25)) := (Below.refl _ _).alloc (Nat.le_refl _) _
  exact ⟨hp.below hb2, hb.trans (hb2.mono hb.size), (hb2.block _ (Array.getElem?_eq_some_iff.1 h1).1).trans h1, (hb2.block _ (Array.getElem?_eq_some_iff.1 h2).1).trans h2, heap_alloc_new W _⟩

set_option maxHeartbeats 1000000 in
set_option maxRecDepth 4000 in
theorem ex_find_gen (w : World) (p : Option Addr) (n cap : Nat) (I : Array Value) (t T N name : List UInt8) (hs : BS w (.slice p n cap) (zeroP ++ t ++ T ++ N)) (h : PlainI w I t.length T.length N.length) (hn : n ≤ 9000000) (r : Exp × Bool × Nat)
    (HL : t ≠ [] → ∀ (w0 : World) p n c, BS w0 (.slice p n c) t → Calls Tryz.prog 103 #[.agg #[.slice p n c], .string (mkS name)] w0 (FindEnd w0 r))
    (HT : t = [] → T ≠ [] → ∀ (w0 : World) p n c q m d, BS w0 (.slice p n c) T → BS w0 (.slice q m d) N → Calls Tryz.prog 167 #[.agg #[.int .u64 4096, .int .i64 1, .slice p n c, .slice q m d], .string (mkS name)] w0 (FindEnd w0 r))
    (H0 : t = [] → T = [] → r = (Exp.zero, false, 0)) :
    Calls Tryz.prog 11 #[.slice p n cap, .agg I, .string (mkS name)] w (FindEnd w (endF r)) := by
  obtain ⟨x, is, er⟩ := r
  obtain ⟨R, hR⟩ : ∃ R : Exp × Bool × Nat, R = endF (x, is, er) := ⟨_, rfl⟩
  rw [← hR]
  have HR := hid hR
  clear hR
  have hb2 : Below w.heap.size w ((w.alloc (.cells I 38)).alloc (.cells zeroX 25)) := ((Below.refl _ _).alloc (Nat.le_refl _) _).alloc (by simp) _
  have hA := heap_alloc2_old w (.cells I 38) (.cells zeroX 25)
  have hB := heap_alloc2_new w (.cells I 38) (.cells zeroX 25)
  have rA := rowA_block hA h.ok.1
  unfold zeroX at rA
  have hcall := ex_of _ p n cap I t T N (hs.below hb2) (h.below hb2) hn
  have H := hid (And.intro hb2 (And.intro hA (And.intro hB (And.intro h hcall))))
  have HX := hid (And.intro HL (And.intro HT H0))
  clear HL HT H0 hb2 hA hB hs h hcall
  go_enter Tryz.func11, Tryz.ntmps11
  go_upto_region 1 with fail
  go_cut [9, 10, 11] (fun t9 t10 t11 wx => ∃ K, t9 = .pointer (some ⟨K, 0, none⟩) ∧ t10 = .bool is ∧ t11 = .int .i64 (er : Int) ∧ FSt w wx I x.cells.toArray K t.length T.length N.length)
  case first =>
    go_wp2_with fail
    refine (H.out.2.2.2.2).mono ?_
    rintro e w1 ⟨⟨v, rfl, hv⟩, hb⟩
    have hz := hb.size
    simp only [World.size_alloc] at hz
    have hI1 : PlainI w1 I t.length T.length N.length := (H.out.2.2.2.1.below H.out.1).below hb
    have hA1 := (hb.block w.heap.size (by simp; omega)).trans H.out.2.1
    have hB1 := (hb.block (w.heap.size + 1) (by simp)).trans H.out.2.2.1
    have hbw1 := H.out.1.trans (hb.mono H.out.1.size)
    have H1 := hid (And.intro hI1 (And.intro hA1 (And.intro hB1 hbw1)))
    have Hv := hid hv
    clear hb hI1 hA1 hB1 hbw1 hv rA
    have close : ∀ (a : Act) (w2 : World), True := fun _ _ => trivial
    rcases Hv.out with ⟨h1, p1, n1, c1, rfl, h2⟩ | ⟨h1, h2, p1, n1, c1, q1, m1, d1, rfl, h3, h4⟩ | ⟨h1, h2, rfl⟩
    · have hc := HX.out.1 h1 w1 p1 n1 c1 h2
      have Hc := hid hc
      clear hc h1 h2 Hv close
      go_wp2_with fail
      refine Hc.out.mono ?_
      rintro e w2 ⟨rfl, hb⟩
      have hst := FSt.make (X := x.cells.toArray) (H1.out.1.below hb) (H1.out.2.2.2.trans (hb.mono H1.out.2.2.2.size)) ((hb.block _ (Array.getElem?_eq_some_iff.1 H1.out.2.1).1).trans H1.out.2.1) ((hb.block _ (Array.getElem?_eq_some_iff.1 H1.out.2.2.1).1).trans H1.out.2.2.1)
      have hok := expOk x
      have Hs := hid hst
      clear hb hst
      go_wp2_with fail
      go_meet
      exact ⟨_, rfl, rfl, rfl, Hs.out⟩
    · have hc := HX.out.2.1 h1 h2 w1 p1 n1 c1 q1 m1 d1 h3 h4
      have Hc := hid hc
      clear hc h1 h2 h3 h4 Hv close
      go_wp2_with fail
      refine Hc.out.mono ?_
      rintro e w2 ⟨rfl, hb⟩
      have hst := FSt.make (X := x.cells.toArray) (H1.out.1.below hb) (H1.out.2.2.2.trans (hb.mono H1.out.2.2.2.size)) ((hb.block _ (Array.getElem?_eq_some_iff.1 H1.out.2.1).1).trans H1.out.2.1) ((hb.block _ (Array.getElem?_eq_some_iff.1 H1.out.2.2.1).1).trans H1.out.2.2.1)
      have hok := expOk x
      have Hs := hid hst
      clear hb hst
      go_wp2_with fail
      go_meet
      exact ⟨_, rfl, rfl, rfl, Hs.out⟩
    · have hc := ex_no_find w1 name
      have hr0 := HX.out.2.2 h1 h2
      have Hc := hid (And.intro hc hr0)
      clear hc h1 h2 Hv close hr0
      go_wp2_with fail
      refine Hc.out.1.mono ?_
      rintro e w2 ⟨rfl, hb⟩
      have hst := FSt.make (X := Exp.zero.cells.toArray) (H1.out.1.below hb) (H1.out.2.2.2.trans (hb.mono H1.out.2.2.2.size)) ((hb.block _ (Array.getElem?_eq_some_iff.1 H1.out.2.1).1).trans H1.out.2.1) ((hb.block _ (Array.getElem?_eq_some_iff.1 H1.out.2.2.1).1).trans H1.out.2.2.1)
      have hok := expOk Exp.zero
      have Hs := hid hst
      clear hb hst
      go_wp2_with fail
      go_meet
      have e3 := Hc.out.2
      cases e3
      exact ⟨_, rfl, rfl, rfl, Hs.out⟩
  case rest =>
    obtain ⟨K, rfl, rfl, rfl, hst⟩ := hcut
    clear rA
    clear HX H
    have hok := expOk x
    have hok0 := zeroX_ok
    have hr0 := exp_stored hst.res hok0
    have hf0 := fullA_block hst.res (n := 7) rfl
    have hrI := rowA_block hst.img hst.plain.ok.1
    have hrX := rowA_block hst.exp hok.1
    have HS := hid hst
    clear hst
    by_cases he : er = 0
    · subst he
      cases is with
      | false =>
        go_wp2_with fail
        refine bodyPost_ret (v := .tuple #[.agg zeroX, .bool false, .int .i64 0]) (by simp [results, Tryz.results11, go_sem, *]) rfl ?_
        rw [HR.out]
        exact ⟨rfl, Below.setRow HS.out.below (by omega) _⟩
      | true =>
        clear hr0 hf0
        go_wp2_with fail
        refine (ex_may _ I _ _ _ x HS.out.plain).mono ?_
        rintro e w3 ⟨rfl, hb⟩
        have hst := HS.out.next hb
        have hr0 := exp_stored hst.res hok0
        have hr1 := exp_stored hst.res hok
        have hf0 := fullA_block hst.res (n := 7) rfl
        have hrX3 := rowA_block hst.exp hok.1
        have HS3 := hid hst
        obtain ⟨M, hM⟩ : ∃ M, M = mayX x := ⟨_, rfl⟩
        rw [← hM]
        have HM := hid hM
        clear hst hb hM hrX hrI
        by_cases hm : M = 0
        · subst hm
          go_wp2_with fail
          refine bodyPost_ret (v := .tuple #[.agg x.cells.toArray, .bool true, .int .i64 0]) (by simp [results, Tryz.results11, go_sem, *]) rfl ?_
          rw [HR.out]
          unfold endF
          rw [if_neg (by simp), if_neg (by simp), if_neg (by rw [← HM.out]; simp)]
          exact ⟨rfl, Below.setRow HS3.out.below (by omega) _⟩
        · have dm : ((M : Int) != 0) = true := by rw [bne_iff_ne]; omega
          have Hm := hid hm
          clear hm
          go_wp2_with fail
          refine bodyPost_ret (v := .tuple #[.agg zeroX, .bool false, .int .i64 (M : Int)]) (by simp [results, Tryz.results11, go_sem, *]) rfl ?_
          rw [HR.out]
          unfold endF
          rw [if_neg (by simp), if_neg (by simp), if_pos (by rw [← HM.out]; exact Hm.out), ← HM.out]
          exact ⟨rfl, Below.setRow HS3.out.below (by omega) _⟩
    · have de : ((er : Int) == 0) = false := by rw [beq_eq_false_iff_ne]; omega
      have dn : ((er : Int) != 0) = true := by rw [bne_iff_ne]; omega
      have He := hid he
      clear he
      go_wp2_with fail
      refine bodyPost_ret (v := .tuple #[.agg zeroX, .bool false, .int .i64 (er : Int)]) (by simp [results, Tryz.results11, go_sem, *]) rfl ?_
      rw [HR.out]
      unfold endF
      rw [if_pos He.out]
      exact ⟨rfl, Below.setRow HS.out.below (by omega) _⟩
end Go.Proofs.YthhjdkcnkdffcaaGreat
