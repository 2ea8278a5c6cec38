/- Package lay: the closure of Slides. -/
import Derived.Test.YtacmjpkcimjjpaaGreatDoorLyA
namespace Go.Proofs.YtacmjpkcimjjpaaGreatDoor
set_option linter.unusedSimpArgs false
set_option linter.unusedVariables false
open Go.RowKit

attribute [local go_sem ↓] old_img
attribute [local go_sem] big_img

/-- An image's slide, an error, and the place behind it. -/
def nextM (lo hi : Nat) (fixed : Bool) (place : Nat) : Int × Int × Nat :=
  if hi ≤ lo then (0, 8, place)
  else if (fixed = true ∧ 140737488355328 < hi) ∨ (fixed = false ∧ 140737488355328 - place < hi - lo) then (0, 20, place)
  else if fixed = true then (0, 0, max place (min (upM hi) 140737488355328))
  else (IntKind.u64.wrap ((place : Int) - (lo : Int)), 0, min ((place + upM (hi - lo)) % 18446744073709551616) 140737488355328)

def NextEnd (w : World) (P : Nat) (r : Int × Int × Nat) (e : Ending) (w' : World) : Prop :=
  e = .returned (.tuple #[.int .u64 r.1, .int .i64 r.2.1]) ∧ RowAt w' P 22 #[.int .u64 (r.2.2 : Int)] ∧ w.grownBy w' (some P)

/-- What stands while both ends are asked for. -/
structure NxIn (w W : World) (P place : Nat) (I : Array Value) (v : Value) (l : List Seg) : Prop where
  img : rowA W ⟨w.heap.size, 0, none⟩ 24 = some I
  row : RowAt W P 22 #[.int .u64 (place : Int)]
  segs : SegsAt W v l
  bel : Below w.heap.size w W
  lt : w.heap.size < W.heap.size

theorem NxIn.next {w W W' : World} {P place : Nat} {I : Array Value} {v : Value} {l : List Seg} (h : NxIn w W P place I v l) (hb : Below W.heap.size W W') : NxIn w W' P place I v l :=
  ⟨rowA_below hb h.lt h.img, h.row.below hb, h.segs.below hb, h.bel.trans (hb.mono h.bel.size), Nat.lt_of_lt_of_le h.lt hb.size⟩

set_option maxRecDepth 10000 in
set_option maxHeartbeats 2000000 in
theorem ly_next (w : World) (I : Array Value) (v : Value) (l : List Seg) (hI : ImgV I v) (h : SegsAt w v l) (fixed : Bool) (P place : Nat) (hP : RowAt w P 22 #[.int .u64 (place : Int)]) (hpl : place ≤ 140737488355328) :
    Calls Tryz.prog 32 #[.agg I, .bool fixed, .pointer (some ⟨P, 0, none⟩)] w (NextEnd w P (nextM (lowM l) (highM l) fixed place)) := by
  have hb0 : Below w.heap.size w (w.alloc (.cells I 37)) := (Below.refl _ _).alloc (Nat.le_refl _) _
  have hi0 : NxIn w (w.alloc (.cells I 37)) P place I v l := ⟨rowA_block (heap_alloc_new w _) hI.size, hP.below hb0, h.below hb0, hb0, by simp⟩
  have hi1 : NxIn w (w.alloc (.cells I 37)).drew P place I v l := hi0.next ⟨rfl, rfl, rfl, Nat.le_refl _, fun _ _ => rfl⟩
  have hhi := highM_lt l
  obtain ⟨lo, hlo⟩ : ∃ n, n = lowM l := ⟨_, rfl⟩
  obtain ⟨hi_, hhi_⟩ : ∃ n, n = highM l := ⟨_, rfl⟩
  have H := hid (And.intro hi1 (And.intro hI (And.intro hlo hhi_)))
  rw [← hhi_] at hhi
  rw [← hlo, ← hhi_]
  clear hi0 hi1 hb0 hI h hP hlo hhi_
  go_enter Tryz.func32, Tryz.ntmps32
  go_wp2_with fail
  have hi := H.out.1
  go_region_held3 (fun W => rowA W ⟨w.heap.size, 0, none⟩ 24 = some I) (exact hi.img)
    (first
      | (go_at_call 33; (with_reducible refine (im_low _ I v l H.out.2.1 hi.segs).mono ?_); rintro e w1 ⟨rfl, hb⟩; rw [← H.out.2.2.1]; have hi := hi.next hb; clear hb)
      | (go_at_call 34; (with_reducible refine (im_high _ I v l H.out.2.1 hi.segs).mono ?_); rintro e w2 ⟨rfl, hb⟩; rw [← H.out.2.2.2]; have hi := hi.next hb; clear hb)
      | fail "no call")
  have hcell : w2.cell? ⟨P, 0, none⟩ = some (.int .u64 (place : Int)) := hi.row.cell 0
  have hfr : w2.frozen? ⟨P, 0, none⟩ = false := hi.row.own 0
  have Hi := hid hi
  clear hi
  by_cases h1 : hi_ ≤ lo
  · have d1 : decide ((hi_ : Int) ≤ (lo : Int)) = true := by rw [decide_eq_true_eq]; omega
    have d1' : decide (hi_ ≤ lo) = true := by rw [decide_eq_true_eq]; exact h1
    have hr : nextM lo hi_ fixed place = (0, 8, place) := if_pos h1
    have HR := hid hr
    clear hr h1
    go_wp2_with fail
    go_ret2
    rw [HR.out]
    exact ⟨rfl, Hi.out.row, Below.all Hi.out.bel _⟩
  · have d1 : decide ((hi_ : Int) ≤ (lo : Int)) = false := by rw [decide_eq_false_iff_not]; omega
    have d1' : decide (hi_ ≤ lo) = false := by rw [decide_eq_false_iff_not]; exact h1
    cases fixed with
    | true =>
      by_cases h2 : 140737488355328 < hi_
      · have d2 : decide ((140737488355328 : Int) < (hi_ : Int)) = true := by rw [decide_eq_true_eq]; omega
        have d2' : decide (140737488355328 < hi_) = true := by rw [decide_eq_true_eq]; omega
        have hr : nextM lo hi_ true place = (0, 20, place) := by unfold nextM; rw [if_neg h1, if_pos (.inl ⟨rfl, h2⟩)]
        have HR := hid hr
        clear hr h1 h2
        go_wp2_with fail
        go_ret2
        rw [HR.out]
        exact ⟨rfl, Hi.out.row, Below.all Hi.out.bel _⟩
      · have d2 : decide ((140737488355328 : Int) < (hi_ : Int)) = false := by rw [decide_eq_false_iff_not]; omega
        have d2' : decide (140737488355328 < hi_) = false := by rw [decide_eq_false_iff_not]; omega
        have hr : nextM lo hi_ true place = (0, 0, max place (min (upM hi_) 140737488355328)) := by
          unfold nextM; rw [if_neg h1, if_neg (by rintro (⟨-, h⟩ | ⟨h, -⟩); exact h2 h; cases h), if_pos rfl]
        have HR := hid hr
        clear hr h1 h2
        have HU := hid (fun w => ly_up w hi_)
        obtain ⟨U, hU⟩ : ∃ U, U = upM hi_ := ⟨_, rfl⟩
        rw [← hU] at HU HR
        clear hU
        go_wp2_with fail
        go_region_with (go_at_call 35; refine (HU.out _).mono ?_; rintro e w3 ⟨rfl, rfl⟩)
        all_goals
          generalize hZ : (if (place : Int) < (if (140737488355328 : Int) < (U : Int) then (140737488355328 : Int) else (U : Int)) then (if (140737488355328 : Int) < (U : Int) then (140737488355328 : Int) else (U : Int)) else (place : Int)) = Z
          generalize (if (140737488355328 : Int) < (U : Int) then (140737488355328 : Int) else (U : Int)) = Y
          have e : Z = ((max place (min U 140737488355328) : Nat) : Int) := by
            rw [← hZ]
            split <;> split at * <;> omega
          have HZ := hid e
          clear hZ e
          go_wp2_with fail
          go_ret2
          rw [HR.out]
          have hrow := Hi.out.row.same (.int .u64 Z) (i := 0)
          have hg : w.grownBy (w2.setCell ⟨P, 0, none⟩ (.int .u64 Z)) (some P) := World.grownBy.trans (Below.all Hi.out.bel _) (grownBy_set w2 P 0 _)
          refine ⟨rfl, ?_, ⟨hg.os, hg.tape, hg.output, hg.size, hg.block⟩⟩
          show RowAt (w2.setCell ⟨P, 0, none⟩ (.int .u64 Z)) P 22 #[.int .u64 ((max place (min U 140737488355328) : Nat) : Int)]
          rw [← HZ.out]
          exact hrow
    | false =>
      obtain ⟨D, hD⟩ : ∃ D, D = hi_ - lo := ⟨_, rfl⟩
      obtain ⟨R, hR⟩ : ∃ R, R = 140737488355328 - place := ⟨_, rfl⟩
      have w1 : IntKind.u64.wrap ((hi_ : Int) - (lo : Int)) = (D : Int) := (IntWalk.u64_in _ (by omega)).trans (by omega)
      have w2 : IntKind.u64.wrap (140737488355328 - (place : Int)) = (R : Int) := (IntWalk.u64_in _ (by omega)).trans (by omega)
      by_cases h2 : R < D
      · have d2 : decide ((R : Int) < (D : Int)) = true := by rw [decide_eq_true_eq]; omega
        have d2' : decide (R < D) = true := by rw [decide_eq_true_eq]; omega
        have hr : nextM lo hi_ false place = (0, 20, place) := by unfold nextM; rw [if_neg h1, if_pos (.inr ⟨rfl, by omega⟩)]
        have HR := hid hr
        clear hr h1 h2 hD hR
        go_wp2_with fail
        go_ret2
        rw [HR.out]
        exact ⟨rfl, Hi.out.row, Below.all Hi.out.bel _⟩
      · have d2 : decide ((R : Int) < (D : Int)) = false := by rw [decide_eq_false_iff_not]; omega
        have d2' : decide (R < D) = false := by rw [decide_eq_false_iff_not]; omega
        obtain ⟨S, hS⟩ : ∃ S, S = IntKind.u64.wrap ((place : Int) - (lo : Int)) := ⟨_, rfl⟩
        have HU := hid (fun w => ly_up w D)
        obtain ⟨U, hU⟩ : ∃ U, U = upM D := ⟨_, rfl⟩
        obtain ⟨Q, hQ⟩ : ∃ Q, Q = (place + U) % 18446744073709551616 := ⟨_, rfl⟩
        have w3 : IntKind.u64.wrap ((place : Int) + (U : Int)) = (Q : Int) := by
          show ((place : Int) + (U : Int)) % 18446744073709551616 = _; omega
        have hr : nextM lo hi_ false place = (S, 0, min Q 140737488355328) := by
          unfold nextM; rw [if_neg h1, if_neg (by rintro (⟨h, -⟩ | ⟨-, h⟩); cases h; omega), if_neg (by decide), ← hS, ← hD, ← hU, ← hQ]
        rw [← hU] at HU
        have HR := hid hr
        have hS' := hS.symm
        clear hr h1 h2 hD hR hU hQ hS
        go_wp2_with fail
        go_region_with (go_at_call 35; refine (HU.out _).mono ?_; rintro e w3 ⟨rfl, rfl⟩)
        all_goals
          generalize hZ : (if (140737488355328 : Int) < (Q : Int) then (140737488355328 : Int) else (Q : Int)) = Z
          have e : Z = ((min Q 140737488355328 : Nat) : Int) := by
            rw [← hZ]
            split <;> omega
          have HZ := hid e
          clear hZ e
          go_wp2_with fail
          go_ret2
          rw [HR.out]
          have hrow := Hi.out.row.same (.int .u64 Z) (i := 0)
          have hg := World.grownBy.trans (Below.all Hi.out.bel _) (grownBy_set _ P 0 (.int .u64 Z))
          refine ⟨rfl, ?_, ⟨hg.os, hg.tape, hg.output, hg.size, hg.block⟩⟩
          show RowAt (World.setCell _ ⟨P, 0, none⟩ (.int .u64 Z)) P 22 #[.int .u64 ((min Q 140737488355328 : Nat) : Int)]
          rw [← HZ.out]
          exact hrow
end Go.Proofs.YtacmjpkcimjjpaaGreatDoor
