/- BesideNil: the parts of beside.Of and what tells the same, at nothing. -/
import Derived.Test.YtjfkgdfmkofbmaaGreatDoorZAppend
import Derived.Test.YtjfkgdfmkofbmaaGreatDoorZBpA
import Derived.Carry
import Derived.Test.YtjfkgdfmkofbmaaGreatDoorZRow
import Derived.Deep.DeepCutAuto
import Derived.Deep.RegionHeld
namespace Go.Proofs.YtjfkgdfmkofbmaaGreatDoor
set_option linter.unusedSimpArgs false
set_option linter.unusedVariables false
open Go.RowKit

set_option maxHeartbeats 1000000 in
theorem ni_images (w : World) : Calls Tryz.prog 15 #[.slice none 0 0] w fun e w' => ∃ k, e = .returned (.tuple #[.slice none 0 0, .map (some k)]) ∧ Below w.heap.size w w' := by
  have hmm := @run_makeMap Tryz.prog
  go_enter Tryz.func15, Tryz.ntmps15
  go_wp2_with fail
  refine wp_loop_rounds 1 ?_
  rw [rounds_succ]
  go_wp2_with fail
  exact bodyPost_ret (v := .tuple #[.slice none 0 0, .map (some w.heap.size)]) (by simp [results, Tryz.results15, go_sem]) rfl ⟨_, rfl, (Below.refl _ _).alloc (Nat.le_refl _) _⟩

set_option maxHeartbeats 1000000 in
theorem ni_alone (w : World) (v : Value) : Calls Tryz.prog 16 #[.slice none 0 0, v] w fun e w' => e = .returned (.tuple #[.slice none 0 0, .slice none 0 0]) ∧ w = w' := by
  go_enter Tryz.func16, Tryz.ntmps16
  go_wp2_with fail
  refine wp_loop_rounds 1 ?_
  rw [rounds_succ]
  go_wp2_with fail
  exact bodyPost_ret (v := .tuple #[.slice none 0 0, .slice none 0 0]) (by simp [results, Tryz.results16, go_sem]) rfl ⟨rfl, rfl⟩

set_option maxHeartbeats 1000000 in
theorem ni_equal (w : World) : Calls Tryz.prog 17 #[.slice none 0 0, .slice none 0 0] w fun e w' => e = .returned (.bool true) ∧ w = w' := by
  go_enter Tryz.func17, Tryz.ntmps17
  go_wp2_with fail
  refine wp_loop_rounds 1 ?_
  rw [rounds_succ]
  go_wp2_with fail
  exact bodyPost_ret (v := .bool true) (by simp [results, Tryz.results17, go_sem]) rfl ⟨rfl, rfl⟩

set_option maxHeartbeats 1000000 in
theorem ni_more (w : World) : Calls Tryz.prog 18 #[.slice none 0 0, .slice none 0 0] w fun e w' => e = .returned (.slice none 0 0) ∧ Below w.heap.size w w' := by
  have hmm := @run_makeMap Tryz.prog
  go_enter Tryz.func18, Tryz.ntmps18
  go_wp2_with fail
  refine wp_loop_rounds 1 ?_
  rw [rounds_succ]
  go_wp2_with fail
  refine wp_loop_rounds 1 ?_
  rw [rounds_succ]
  go_wp2_with fail
  exact bodyPost_ret (v := .slice none 0 0) (by simp [results, Tryz.results18, go_sem]) rfl ⟨rfl, (Below.refl _ _).alloc (Nat.le_refl _) _⟩

set_option maxHeartbeats 1000000 in
theorem ni_starts (w : World) (a b : Value) (n : Int) : Calls Tryz.prog 19 #[.agg #[a, b, .slice none 0 0, .int .u64 n]] w fun e w' => e = .returned (.slice none 0 0) ∧ Below w.heap.size w w' := by
  go_enter Tryz.func19, Tryz.ntmps19
  go_wp2_with fail
  refine wp_loop_rounds 1 ?_
  rw [rounds_succ]
  go_wp2_with fail
  exact bodyPost_ret (v := .slice none 0 0) (by simp [results, Tryz.results19, go_sem]) rfl ⟨rfl, (Below.refl _ _).alloc (Nat.le_refl _) _⟩

set_option maxHeartbeats 1000000 in
theorem ni_texts (w : World) (p q : Option Addr) (c d : Nat) : Calls Tryz.prog 29 #[.slice p 0 c, .slice q 0 d] w fun e w' => e = .returned (.bool true) ∧ w = w' := by
  go_enter Tryz.func29, Tryz.ntmps29
  go_wp2_with fail
  refine wp_loop_rounds 1 ?_
  rw [rounds_succ]
  go_wp2_with fail
  exact bodyPost_ret (v := .bool true) (by simp [results, Tryz.results29, go_sem]) rfl ⟨rfl, rfl⟩

set_option maxHeartbeats 1000000 in
theorem ni_sames (w : World) (p q : Option Addr) (c d : Nat) : Calls Tryz.prog 31 #[.slice p 0 c, .slice q 0 d] w fun e w' => e = .returned (.bool true) ∧ w = w' := by
  go_enter Tryz.func31, Tryz.ntmps31
  go_wp2_with fail
  refine wp_loop_rounds 1 ?_
  rw [rounds_succ]
  go_wp2_with fail
  exact bodyPost_ret (v := .bool true) (by simp [results, Tryz.results31, go_sem]) rfl ⟨rfl, rfl⟩
end Go.Proofs.YtjfkgdfmkofbmaaGreatDoor

namespace Go.Proofs.YtjfkgdfmkofbmaaGreatDoor
set_option linter.unusedSimpArgs false
set_option linter.unusedVariables false
open Go.RowKit

set_option maxHeartbeats 1000000 in
theorem ni_pieces (w : World) (p q : Option Addr) (c d : Nat) : Calls Tryz.prog 51 #[.slice p 0 c, .slice q 0 d] w fun e w' => e = .returned (.bool true) ∧ w = w' := by
  go_enter Tryz.func51, Tryz.ntmps51
  go_wp2_with fail
  refine wp_loop_rounds 1 ?_
  rw [rounds_succ]
  go_wp2_with fail
  exact bodyPost_ret (v := .bool true) (by simp [results, Tryz.results51, go_sem]) rfl ⟨rfl, rfl⟩

set_option maxHeartbeats 1000000 in
theorem ni_image (w : World) : Calls Tryz.prog 13 #[.agg #[.slice none 0 0, .slice none 0 0, .slice none 0 0, .int .u64 0], .int .i64 0] w fun e w' => e = .returned (.slice none 0 0) ∧ Below w.heap.size w w' := by
  have b0 : Below w.heap.size w (w.alloc (.cells #[.slice none 0 0, .slice none 0 0, .slice none 0 0, .int .u64 0] 38)) := (Below.refl _ _).alloc (Nat.le_refl _) _
  have HB := hid b0
  clear b0
  go_enter Tryz.func13, Tryz.ntmps13
  go_wp2_with fail
  exact bodyPost_ret (v := .slice none 0 0) (by simp [results, Tryz.results13, go_sem]) rfl ⟨rfl, HB.out⟩

set_option maxHeartbeats 1000000 in
theorem ni_rows (w : World) (p q r : Option Addr) (c d e : Nat) : Calls Tryz.prog 30 #[.agg #[.slice p 0 c, .slice q 0 d, .slice r 0 e], .agg #[.slice none 0 0, .slice none 0 0, .slice none 0 0]] w fun e w' => e = .returned (.bool true) ∧ Below w.heap.size w w' := by
  go_enter Tryz.func30, Tryz.ntmps30
  go_wp2_with fail
  refine (ni_pieces _ _ _ _ _).mono ?_
  rintro e w1 ⟨rfl, rfl⟩
  go_wp2_with fail
  refine (ni_pieces _ _ _ _ _).mono ?_
  rintro e w1 ⟨rfl, rfl⟩
  go_wp2_with fail
  refine wp_loop_rounds 1 ?_
  rw [rounds_succ]
  go_wp2_with fail
  exact bodyPost_ret (v := .bool true) (by simp [results, Tryz.results30, go_sem]) rfl ⟨rfl, ((Below.refl _ _).alloc (Nat.le_refl _) _).alloc (by simp) _⟩
end Go.Proofs.YtjfkgdfmkofbmaaGreatDoor

namespace Go.Proofs.YtjfkgdfmkofbmaaGreatDoor
set_option linter.unusedSimpArgs false
set_option linter.unusedVariables false
open Go.RowKit

/-- Nothing beside nothing, whatever its rows' slices. -/
def besN (p q r : Option Addr) (c d e : Nat) : Array Value := #[.slice none 0 0, .slice none 0 0, .bool false, .slice none 0 0, .slice p 0 c, .slice q 0 d, .slice r 0 e, .slice none 0 0, .slice none 0 0, .bool false]

set_option maxHeartbeats 2000000 in
theorem ni_same (w : World) (p q r : Option Addr) (c d e : Nat) : Calls Tryz.prog 10 #[.agg (besN p q r c d e), .agg (besN none none none 0 0 0)] w fun e w' => e = .returned (.bool true) ∧ Below w.heap.size w w' := by
  unfold besN
  obtain ⟨V1, hV1⟩ : ∃ W, W = w.alloc (.cells #[.slice none 0 0, .slice none 0 0, .bool false, .slice none 0 0, .slice p 0 c, .slice q 0 d, .slice r 0 e, .slice none 0 0, .slice none 0 0, .bool false] 30) := ⟨_, rfl⟩
  have b1 : Below w.heap.size w V1 := by rw [hV1]; exact (Below.refl _ _).alloc (Nat.le_refl _) _
  have r1 : RowAt V1 w.heap.size 30 #[.slice none 0 0, .slice none 0 0, .bool false, .slice none 0 0, .slice p 0 c, .slice q 0 d, .slice r 0 e, .slice none 0 0, .slice none 0 0, .bool false] := by rw [hV1]; exact heap_alloc_new w _
  have s1 : V1.heap.size = w.heap.size + 1 := by rw [hV1]; simp
  obtain ⟨V, hV⟩ : ∃ W, W = V1.alloc (.cells #[.slice none 0 0, .slice none 0 0, .bool false, .slice none 0 0, .slice none 0 0, .slice none 0 0, .slice none 0 0, .slice none 0 0, .slice none 0 0, .bool false] 30) := ⟨_, rfl⟩
  have b2 : Below V1.heap.size V1 V := by rw [hV]; exact (Below.refl _ _).alloc (Nat.le_refl _) _
  have r2 : RowAt V (w.heap.size + 1) 30 #[.slice none 0 0, .slice none 0 0, .bool false, .slice none 0 0, .slice none 0 0, .slice none 0 0, .slice none 0 0, .slice none 0 0, .slice none 0 0, .bool false] := by rw [← s1, hV]; exact heap_alloc_new V1 _
  have H := hid (And.intro (b1.trans (b2.mono b1.size)) (And.intro (RowAt.below r1 b2) r2))
  rw [hV1] at hV
  clear b1 r1 s1 b2 r2 hV1
  go_enter Tryz.func10, Tryz.ntmps10
  go_upto_region 1 with fail
  rw [← hV]
  clear hV
  have x0 : V.cell? ⟨w.heap.size, 0, none⟩ = some (.slice none 0 0) := H.out.2.1.cell 0
  have x1 : V.cell? ⟨w.heap.size, 1, none⟩ = some (.slice none 0 0) := H.out.2.1.cell 1
  have x2 : V.cell? ⟨w.heap.size, 2, none⟩ = some (.bool false) := H.out.2.1.cell 2
  have x3 : V.cell? ⟨w.heap.size, 3, none⟩ = some (.slice none 0 0) := H.out.2.1.cell 3
  have x4 : V.cell? ⟨w.heap.size, 4, none⟩ = some (.slice p 0 c) := H.out.2.1.cell 4
  have x5 : V.cell? ⟨w.heap.size, 5, none⟩ = some (.slice q 0 d) := H.out.2.1.cell 5
  have x6 : V.cell? ⟨w.heap.size, 6, none⟩ = some (.slice r 0 e) := H.out.2.1.cell 6
  have x9 : V.cell? ⟨w.heap.size, 9, none⟩ = some (.bool false) := H.out.2.1.cell 9
  have y0 : V.cell? ⟨w.heap.size + 1, 0, none⟩ = some (.slice none 0 0) := H.out.2.2.cell 0
  have y1 : V.cell? ⟨w.heap.size + 1, 1, none⟩ = some (.slice none 0 0) := H.out.2.2.cell 1
  have y2 : V.cell? ⟨w.heap.size + 1, 2, none⟩ = some (.bool false) := H.out.2.2.cell 2
  have y3 : V.cell? ⟨w.heap.size + 1, 3, none⟩ = some (.slice none 0 0) := H.out.2.2.cell 3
  have y4 : V.cell? ⟨w.heap.size + 1, 4, none⟩ = some (.slice none 0 0) := H.out.2.2.cell 4
  have y5 : V.cell? ⟨w.heap.size + 1, 5, none⟩ = some (.slice none 0 0) := H.out.2.2.cell 5
  have y6 : V.cell? ⟨w.heap.size + 1, 6, none⟩ = some (.slice none 0 0) := H.out.2.2.cell 6
  have y9 : V.cell? ⟨w.heap.size + 1, 9, none⟩ = some (.bool false) := H.out.2.2.cell 9
  go_wp2_with fail
  refine (ni_texts _ _ _ _ _).mono ?_
  rintro e w1 ⟨rfl, rfl⟩
  go_wp2_with fail
  refine (ni_texts _ _ _ _ _).mono ?_
  rintro e w1 ⟨rfl, rfl⟩
  go_wp2_with fail
  refine (ni_rows _ _ _ _ _ _ _).mono ?_
  rintro e w4 ⟨rfl, b4⟩
  have HB := hid b4
  clear x0 x1 x2 x4 x5 x6 x9 y0 y1 y2 y4 y5 y6 y9 x3 y3 b4
  have x3 : w4.cell? ⟨w.heap.size, 3, none⟩ = some (.slice none 0 0) := (RowAt.below H.out.2.1 HB.out).cell 3
  have x7 : w4.cell? ⟨w.heap.size, 7, none⟩ = some (.slice none 0 0) := (RowAt.below H.out.2.1 HB.out).cell 7
  have x8 : w4.cell? ⟨w.heap.size, 8, none⟩ = some (.slice none 0 0) := (RowAt.below H.out.2.1 HB.out).cell 8
  have y7 : w4.cell? ⟨w.heap.size + 1, 7, none⟩ = some (.slice none 0 0) := (RowAt.below H.out.2.2 HB.out).cell 7
  have y8 : w4.cell? ⟨w.heap.size + 1, 8, none⟩ = some (.slice none 0 0) := (RowAt.below H.out.2.2 HB.out).cell 8
  go_wp2_with fail
  refine wp_loop_rounds 1 ?_
  rw [rounds_succ]
  go_wp2_with fail
  refine (ni_sames _ _ _ _ _).mono ?_
  rintro e w1 ⟨rfl, rfl⟩
  go_wp2_with fail
  refine (ni_sames _ _ _ _ _).mono ?_
  rintro e w1 ⟨rfl, rfl⟩
  go_wp2_with fail
  exact bodyPost_ret (v := .bool true) (by simp [results, Tryz.results10, go_sem]) rfl ⟨rfl, H.out.1.trans (HB.out.mono H.out.1.size)⟩
end Go.Proofs.YtjfkgdfmkofbmaaGreatDoor

namespace Go.Proofs.YtjfkgdfmkofbmaaGreatDoor
set_option linter.unusedSimpArgs false
set_option linter.unusedVariables false
open Go.RowKit

set_option maxHeartbeats 4000000 in
set_option maxRecDepth 8000 in
theorem ni_lines (w : World) (p q r : Option Addr) (c d e : Nat) : Calls Tryz.prog 11 #[.agg (besN p q r c d e)] w fun e w' => e = .returned (.slice none 0 0) ∧ Below w.heap.size w w' := by
  unfold besN
  obtain ⟨V1, hV1⟩ : ∃ W, W = w.alloc (.cells #[.slice none 0 0, .slice none 0 0, .bool false, .slice none 0 0, .slice p 0 c, .slice q 0 d, .slice r 0 e, .slice none 0 0, .slice none 0 0, .bool false] 30) := ⟨_, rfl⟩
  have b1 : Below w.heap.size w V1 := by rw [hV1]; exact (Below.refl _ _).alloc (Nat.le_refl _) _
  have r1 : RowAt V1 w.heap.size 30 #[.slice none 0 0, .slice none 0 0, .bool false, .slice none 0 0, .slice p 0 c, .slice q 0 d, .slice r 0 e, .slice none 0 0, .slice none 0 0, .bool false] := by rw [hV1]; exact heap_alloc_new w _
  have s1 : V1.heap.size = w.heap.size + 1 := by rw [hV1]; simp
  obtain ⟨V, hV⟩ : ∃ W, W = V1.alloc (.cells #[.slice none 0 0] 22) := ⟨_, rfl⟩
  have b2 : Below V1.heap.size V1 V := by rw [hV]; exact (Below.refl _ _).alloc (Nat.le_refl _) _
  have r2 : RowAt V (w.heap.size + 1) 22 #[.slice none 0 0] := by rw [← s1, hV]; exact heap_alloc_new V1 _
  have H := hid (And.intro (b1.trans (b2.mono b1.size)) (And.intro (RowAt.below r1 b2) r2))
  rw [hV1] at hV
  clear b1 r1 s1 b2 r2 hV1
  go_enter Tryz.func11, Tryz.ntmps11
  go_upto_region 2 with fail
  rw [← hV]
  clear hV
  have x0 : V.cell? ⟨w.heap.size, 0, none⟩ = some (.slice none 0 0) := H.out.2.1.cell 0
  have x1 : V.cell? ⟨w.heap.size, 1, none⟩ = some (.slice none 0 0) := H.out.2.1.cell 1
  have x2 : V.cell? ⟨w.heap.size, 2, none⟩ = some (.bool false) := H.out.2.1.cell 2
  have x3 : V.cell? ⟨w.heap.size, 3, none⟩ = some (.slice none 0 0) := H.out.2.1.cell 3
  have x4 : V.cell? ⟨w.heap.size, 4, none⟩ = some (.slice p 0 c) := H.out.2.1.cell 4
  have x5 : V.cell? ⟨w.heap.size, 5, none⟩ = some (.slice q 0 d) := H.out.2.1.cell 5
  have x6 : V.cell? ⟨w.heap.size, 6, none⟩ = some (.slice r 0 e) := H.out.2.1.cell 6
  have x7 : V.cell? ⟨w.heap.size, 7, none⟩ = some (.slice none 0 0) := H.out.2.1.cell 7
  have x8 : V.cell? ⟨w.heap.size, 8, none⟩ = some (.slice none 0 0) := H.out.2.1.cell 8
  have x9 : V.cell? ⟨w.heap.size, 9, none⟩ = some (.bool false) := H.out.2.1.cell 9
  have f0 : V.frozen? ⟨w.heap.size + 1, 0, none⟩ = false := H.out.2.2.own 0
  have y0 : V.cell? ⟨w.heap.size + 1, 0, none⟩ = some (.slice none 0 0) := H.out.2.2.cell 0
  go_wp2_with fail
  refine wp_loop_rounds 1 ?_
  rw [rounds_succ]
  go_wp2_with fail
  refine wp_loop_rounds 1 ?_
  rw [rounds_succ]
  go_wp2_with fail
  refine wp_loop_rounds 1 ?_
  rw [rounds_succ]
  go_wp2_with fail
  refine wp_loop_rounds 1 ?_
  rw [rounds_succ]
  go_wp2_with fail
  refine wp_loop_rounds 1 ?_
  rw [rounds_succ]
  go_wp2_with fail
  refine wp_loop_rounds 1 ?_
  rw [rounds_succ]
  go_wp2_with fail
  refine wp_loop_rounds 1 ?_
  rw [rounds_succ]
  go_wp2_with fail
  refine wp_loop_rounds 1 ?_
  rw [rounds_succ]
  go_wp2_with fail
  have rr : (V.setCell ⟨w.heap.size + 1, 0, none⟩ (.slice none 0 0)).cell? ⟨w.heap.size + 1, 0, none⟩ = some (.slice none 0 0) := (H.out.2.2.same _).cell 0
  have hb : Below w.heap.size w (V.setCell ⟨w.heap.size + 1, 0, none⟩ (.slice none 0 0)) := Below.put H.out.1 (Nat.le_refl _) (by omega) (grownBy_set V (w.heap.size + 1) 0 _)
  exact bodyPost_ret (v := .slice none 0 0) (by simp [results, Tryz.results11, go_sem, rr]) rfl ⟨rfl, hb⟩
end Go.Proofs.YtjfkgdfmkofbmaaGreatDoor

namespace Go.Proofs.YtjfkgdfmkofbmaaGreatDoor
set_option linter.unusedSimpArgs false
set_option linter.unusedVariables false
open Go.RowKit

theorem setCell_selfN {W : World} {X i : Nat} {t : TypeId} {vs : Array Value} {u : Value} (h : RowAt W X t vs) (hu : vs[i]? = some u) : W.setCell ⟨X, i, none⟩ u = W := by
  have hb : W.heap[X]? = some (.cells vs t (0, 0)) := h
  have hl := (Array.getElem?_eq_some_iff.1 hb).1
  obtain ⟨hi, rfl⟩ := Array.getElem?_eq_some_iff.1 hu
  have e : (W.setCell ⟨X, i, none⟩ vs[i]).heap = W.heap := by
    apply Array.ext_getElem?
    intro k
    by_cases hk : k = X
    · subst hk
      rw [heap_setCell_same W k i vs t vs[i] hb, hb]
      have : vs.setIfInBounds i vs[i] = vs := Array.ext (by simp) (fun j h1 h2 => by rw [Array.getElem_setIfInBounds h2]; split <;> simp_all)
      rw [this]
    · exact heap_setCell_other _ _ _ _ hk
  have : W.setCell ⟨X, i, none⟩ vs[i] = { W with heap := (W.setCell ⟨X, i, none⟩ vs[i]).heap } := rfl
  rw [this, e]
/-- What Memory gives of nothing. -/
def MemNil (w : World) (e : Ending) (w' : World) : Prop := ∃ p c q d r f, e = .returned (.tuple #[.agg #[.slice p 0 c, .slice q 0 d, .slice r 0 f], .int .i64 0]) ∧ Below w.heap.size w w'
/-- The three blocks of Of: the two states, what is told. -/
structure OfN (w W : World) (x : Array Value) : Prop where
  bel : Below w.heap.size w W
  a : RowAt W w.heap.size 38 #[.slice none 0 0, .slice none 0 0, .slice none 0 0, .int .u64 0]
  b : RowAt W (w.heap.size + 1) 38 #[.slice none 0 0, .slice none 0 0, .slice none 0 0, .int .u64 0]
  x : RowAt W (w.heap.size + 1 + 1) 30 x
theorem OfN.below {w W W' : World} {x : Array Value} (h : OfN w W x) (hb : Below W.heap.size W W') : OfN w W' x := ⟨h.bel.trans (hb.mono h.bel.size), RowAt.below h.a hb, RowAt.below h.b hb, RowAt.below h.x hb⟩
theorem OfN.set {w W : World} {x : Array Value} (h : OfN w W x) (i : Nat) (u : Value) : OfN w (W.setCell ⟨w.heap.size + 1 + 1, i, none⟩ u) (x.setIfInBounds i u) :=
  ⟨Below.put h.bel (Nat.le_refl _) (by omega) (grownBy_set W _ i u), h.a.other (by omega) u, h.b.other (by omega) u, h.x.same u⟩
theorem OfN.keep {w W : World} {x : Array Value} (h : OfN w W x) (h7 : x[7]? = some (.slice none 0 0)) (h8 : x[8]? = some (.slice none 0 0)) : W.cell? ⟨w.heap.size, 0, none⟩ = some (.slice none 0 0) ∧ W.cell? ⟨w.heap.size, 1, none⟩ = some (.slice none 0 0) ∧ W.cell? ⟨w.heap.size, 2, none⟩ = some (.slice none 0 0) ∧ W.cell? ⟨w.heap.size, 3, none⟩ = some (.int .u64 0) ∧ W.cell? ⟨w.heap.size + 1, 0, none⟩ = some (.slice none 0 0) ∧ W.cell? ⟨w.heap.size + 1, 1, none⟩ = some (.slice none 0 0) ∧ W.cell? ⟨w.heap.size + 1, 2, none⟩ = some (.slice none 0 0) ∧ W.cell? ⟨w.heap.size + 1, 3, none⟩ = some (.int .u64 0) ∧ W.frozen? ⟨w.heap.size + 1 + 1, 7, none⟩ = false ∧ W.frozen? ⟨w.heap.size + 1 + 1, 8, none⟩ = false ∧ W.cell? ⟨w.heap.size + 1 + 1, 7, none⟩ = some (.slice none 0 0) ∧ W.cell? ⟨w.heap.size + 1 + 1, 8, none⟩ = some (.slice none 0 0) :=
  ⟨h.a.cell 0, h.a.cell 1, h.a.cell 2, h.a.cell 3, h.b.cell 0, h.b.cell 1, h.b.cell 2, h.b.cell 3, h.x.own 7, h.x.own 8, (h.x.cell 7).trans h7, (h.x.cell 8).trans h8⟩
theorem ofN_start (w : World) : OfN w (((w.alloc (.cells #[.slice none 0 0, .slice none 0 0, .slice none 0 0, .int .u64 0] 38)).alloc (.cells #[.slice none 0 0, .slice none 0 0, .slice none 0 0, .int .u64 0] 38)).alloc (.cells (besN none none none 0 0 0) 30)) (besN none none none 0 0 0) := by
  have b1 : Below w.heap.size w (w.alloc (.cells #[.slice none 0 0, .slice none 0 0, .slice none 0 0, .int .u64 0] 38)) := (Below.refl _ _).alloc (Nat.le_refl _) _
  have r1 := heap_alloc_new w (.cells #[.slice none 0 0, .slice none 0 0, .slice none 0 0, .int .u64 0] 38)
  have s1 : (w.alloc (.cells #[.slice none 0 0, .slice none 0 0, .slice none 0 0, .int .u64 0] 38)).heap.size = w.heap.size + 1 := by simp
  generalize w.alloc (.cells #[.slice none 0 0, .slice none 0 0, .slice none 0 0, .int .u64 0] 38) = V1 at b1 r1 s1 ⊢
  have b2 : Below V1.heap.size V1 (V1.alloc (.cells #[.slice none 0 0, .slice none 0 0, .slice none 0 0, .int .u64 0] 38)) := (Below.refl _ _).alloc (Nat.le_refl _) _
  have r2 := heap_alloc_new V1 (.cells #[.slice none 0 0, .slice none 0 0, .slice none 0 0, .int .u64 0] 38)
  have s2 : (V1.alloc (.cells #[.slice none 0 0, .slice none 0 0, .slice none 0 0, .int .u64 0] 38)).heap.size = w.heap.size + 1 + 1 := by simp [s1]
  generalize V1.alloc (.cells #[.slice none 0 0, .slice none 0 0, .slice none 0 0, .int .u64 0] 38) = V2 at b2 r2 s2 ⊢
  have b3 : Below V2.heap.size V2 (V2.alloc (.cells (besN none none none 0 0 0) 30)) := (Below.refl _ _).alloc (Nat.le_refl _) _
  have r3 := heap_alloc_new V2 (.cells (besN none none none 0 0 0) 30)
  rw [s1] at r2
  rw [s2] at r3
  have r1 : RowAt V1 w.heap.size 38 #[.slice none 0 0, .slice none 0 0, .slice none 0 0, .int .u64 0] := r1
  have r2 : RowAt V2 (w.heap.size + 1) 38 #[.slice none 0 0, .slice none 0 0, .slice none 0 0, .int .u64 0] := r2
  exact ⟨b1.trans ((b2.trans (b3.mono b2.size)).mono b1.size), RowAt.below (RowAt.below r1 b2) b3, RowAt.below r2 b3, r3⟩

set_option maxHeartbeats 4000000 in
set_option maxRecDepth 8000 in
theorem ni_of (hM : ∀ W, Calls Tryz.prog 8 #[.slice none 0 0, .slice none 0 0] W (MemNil W)) (w : World) : Calls Tryz.prog 4 #[.agg #[.slice none 0 0, .slice none 0 0, .slice none 0 0, .int .u64 0], .agg #[.slice none 0 0, .slice none 0 0, .slice none 0 0, .int .u64 0]] w fun e w' => ∃ p q r c d f, e = .returned (.tuple #[.agg (besN p q r c d f), .int .i64 0]) ∧ Below w.heap.size w w' := by
  have HMM := hid hM
  clear hM
  have h0 := ofN_start w
  unfold besN at h0
  go_enter Tryz.func4, Tryz.ntmps4
  go_upto_region 1 with fail
  generalize (((w.alloc (.cells #[.slice none 0 0, .slice none 0 0, .slice none 0 0, .int .u64 0] 38)).alloc (.cells #[.slice none 0 0, .slice none 0 0, .slice none 0 0, .int .u64 0] 38)).alloc (.cells #[.slice none 0 0, .slice none 0 0, .bool false, .slice none 0 0, .slice none 0 0, .slice none 0 0, .slice none 0 0, .slice none 0 0, .slice none 0 0, .bool false] 30)) = V at h0 ⊢
  have HV := hid h0
  clear h0
  have x1 : V.cell? ⟨w.heap.size, 1, none⟩ = some (.slice none 0 0) := HV.out.a.cell 1
  have y1 : V.cell? ⟨w.heap.size + 1, 1, none⟩ = some (.slice none 0 0) := HV.out.b.cell 1
  go_wp2_with fail
  refine (HMM.out V).mono ?_
  rintro e w1 ⟨p, c, q, d, r, f, rfl, b1⟩
  have H1 := hid (HV.out.below b1)
  clear b1 x1 y1
  have x4 : w1.cell? ⟨w.heap.size + 1 + 1, 4, none⟩ = some (.slice none 0 0) := H1.out.x.cell 4
  have x5 : w1.cell? ⟨w.heap.size + 1 + 1, 5, none⟩ = some (.slice none 0 0) := H1.out.x.cell 5
  have x6 : w1.cell? ⟨w.heap.size + 1 + 1, 6, none⟩ = some (.slice none 0 0) := H1.out.x.cell 6
  have f4 : w1.frozen? ⟨w.heap.size + 1 + 1, 4, none⟩ = false := H1.out.x.own 4
  have f5 : w1.frozen? ⟨w.heap.size + 1 + 1, 5, none⟩ = false := H1.out.x.own 5
  have f6 : w1.frozen? ⟨w.heap.size + 1 + 1, 6, none⟩ = false := H1.out.x.own 6
  go_upto_region 4 with fail
  have h2 : OfN w (((w1.setCell ⟨w.heap.size + 1 + 1, 4, none⟩ (.slice p 0 c)).setCell ⟨w.heap.size + 1 + 1, 5, none⟩ (.slice q 0 d)).setCell ⟨w.heap.size + 1 + 1, 6, none⟩ (.slice r 0 f)) #[.slice none 0 0, .slice none 0 0, .bool false, .slice none 0 0, .slice p 0 c, .slice q 0 d, .slice r 0 f, .slice none 0 0, .slice none 0 0, .bool false] := ((H1.out.set 4 _).set 5 _).set 6 _
  generalize (((w1.setCell ⟨w.heap.size + 1 + 1, 4, none⟩ (.slice p 0 c)).setCell ⟨w.heap.size + 1 + 1, 5, none⟩ (.slice q 0 d)).setCell ⟨w.heap.size + 1 + 1, 6, none⟩ (.slice r 0 f)) = V2 at h2 ⊢
  have H2 := hid h2
  clear h2 x4 x5 x6 f4 f5 f6
  have x0 : V2.cell? ⟨w.heap.size, 0, none⟩ = some (.slice none 0 0) := H2.out.a.cell 0
  go_wp2_with fail
  refine (ni_images V2).mono ?_
  rintro e w3 ⟨k1, rfl, b3⟩
  have H3 := hid (H2.out.below b3)
  clear b3 x0
  have y0 : w3.cell? ⟨w.heap.size + 1, 0, none⟩ = some (.slice none 0 0) := H3.out.b.cell 0
  go_wp2_with fail
  refine (ni_images w3).mono ?_
  rintro e w4 ⟨k2, rfl, b4⟩
  have H4 := hid (H3.out.below b4)
  clear b4 y0
  go_wp2_with fail
  refine (ni_alone _ _).mono ?_
  rintro e w5 ⟨rfl, rfl⟩
  have g1 : w4.frozen? ⟨w.heap.size + 1 + 1, 1, none⟩ = false := H4.out.x.own 1
  have z1 : w4.cell? ⟨w.heap.size + 1 + 1, 1, none⟩ = some (.slice none 0 0) := H4.out.x.cell 1
  go_upto_region 8 with fail
  have h5 : OfN w (w4.setCell ⟨w.heap.size + 1 + 1, 1, none⟩ (.slice none 0 0)) #[.slice none 0 0, .slice none 0 0, .bool false, .slice none 0 0, .slice p 0 c, .slice q 0 d, .slice r 0 f, .slice none 0 0, .slice none 0 0, .bool false] := H4.out.set 1 _
  generalize w4.setCell ⟨w.heap.size + 1 + 1, 1, none⟩ (.slice none 0 0) = V5 at h5 ⊢
  have H5 := hid h5
  clear h5 g1 z1
  go_wp2_with fail
  refine (ni_alone _ _).mono ?_
  rintro e w6 ⟨rfl, rfl⟩
  have g1 : V5.frozen? ⟨w.heap.size + 1 + 1, 0, none⟩ = false := H5.out.x.own 0
  have z1 : V5.cell? ⟨w.heap.size + 1 + 1, 0, none⟩ = some (.slice none 0 0) := H5.out.x.cell 0
  go_upto_region 9 with fail
  have h6 : OfN w (V5.setCell ⟨w.heap.size + 1 + 1, 0, none⟩ (.slice none 0 0)) #[.slice none 0 0, .slice none 0 0, .bool false, .slice none 0 0, .slice p 0 c, .slice q 0 d, .slice r 0 f, .slice none 0 0, .slice none 0 0, .bool false] := H5.out.set 0 _
  generalize V5.setCell ⟨w.heap.size + 1 + 1, 0, none⟩ (.slice none 0 0) = V6 at h6 ⊢
  have H6 := hid h6
  clear h6 g1 z1
  go_wp2_with fail
  refine (ni_equal _).mono ?_
  rintro e w7 ⟨rfl, rfl⟩
  have g1 : V6.frozen? ⟨w.heap.size + 1 + 1, 2, none⟩ = false := H6.out.x.own 2
  have z1 : V6.cell? ⟨w.heap.size + 1 + 1, 2, none⟩ = some (.bool false) := H6.out.x.cell 2
  go_upto_region 10 with fail
  have h7 : OfN w (V6.setCell ⟨w.heap.size + 1 + 1, 2, none⟩ (.bool false)) #[.slice none 0 0, .slice none 0 0, .bool false, .slice none 0 0, .slice p 0 c, .slice q 0 d, .slice r 0 f, .slice none 0 0, .slice none 0 0, .bool false] := H6.out.set 2 _
  generalize V6.setCell ⟨w.heap.size + 1 + 1, 2, none⟩ (.bool false) = V7 at h7 ⊢
  have H7 := hid h7
  clear h7 g1 z1
  have hmm := @run_makeMap Tryz.prog
  go_wp2_with fail
  refine wp_loop_rounds 1 ?_
  rw [rounds_succ]
  go_upto_region 18 with fail
  have h8 : OfN w (V7.alloc (.map #[] 0)) #[.slice none 0 0, .slice none 0 0, .bool false, .slice none 0 0, .slice p 0 c, .slice q 0 d, .slice r 0 f, .slice none 0 0, .slice none 0 0, .bool false] := H7.out.below ((Below.refl _ _).alloc (Nat.le_refl _) _)
  generalize V7.alloc (.map #[] 0) = V8 at h8 ⊢
  have hi := h8.below (⟨rfl, rfl, rfl, Nat.le_refl _, fun _ _ => rfl⟩ : Below V8.heap.size V8 V8.drew)
  clear h8 hmm
  go_region_held (fun W => W.cell? ⟨w.heap.size, 0, none⟩ = some (.slice none 0 0) ∧ W.cell? ⟨w.heap.size, 1, none⟩ = some (.slice none 0 0) ∧ W.cell? ⟨w.heap.size, 2, none⟩ = some (.slice none 0 0) ∧ W.cell? ⟨w.heap.size, 3, none⟩ = some (.int .u64 0) ∧ W.cell? ⟨w.heap.size + 1, 0, none⟩ = some (.slice none 0 0) ∧ W.cell? ⟨w.heap.size + 1, 1, none⟩ = some (.slice none 0 0) ∧ W.cell? ⟨w.heap.size + 1, 2, none⟩ = some (.slice none 0 0) ∧ W.cell? ⟨w.heap.size + 1, 3, none⟩ = some (.int .u64 0) ∧ W.frozen? ⟨w.heap.size + 1 + 1, 7, none⟩ = false ∧ W.frozen? ⟨w.heap.size + 1 + 1, 8, none⟩ = false ∧ W.cell? ⟨w.heap.size + 1 + 1, 7, none⟩ = some (.slice none 0 0) ∧ W.cell? ⟨w.heap.size + 1 + 1, 8, none⟩ = some (.slice none 0 0)) (first | exact hi.keep rfl rfl | exact (hi.set 7 _).keep rfl rfl | exact (hi.set 8 _).keep rfl rfl | exact ((hi.set 7 _).set 8 _).keep rfl rfl | exact ((hi.set 8 _).set 7 _).keep rfl rfl)
    (first
      | (go_at_call 19; (with_reducible refine (ni_starts _ _ _ _).mono ?_); rintro e w8 ⟨rfl, b8⟩; have hi := hi.below b8; clear b8)
      | (go_at_call 18; (with_reducible refine (ni_more _).mono ?_); rintro e w8 ⟨rfl, b8⟩; have hi := hi.below b8; clear b8)
      | fail "no call")
  all_goals
    have h9 : OfN w ((w8.setCell ⟨w.heap.size + 1 + 1, 7, none⟩ (.slice none 0 0)).setCell ⟨w.heap.size + 1 + 1, 8, none⟩ (.slice none 0 0)) #[.slice none 0 0, .slice none 0 0, .bool false, .slice none 0 0, .slice p 0 c, .slice q 0 d, .slice r 0 f, .slice none 0 0, .slice none 0 0, .bool false] := (hi.set 7 _).set 8 _
    generalize ((w8.setCell ⟨w.heap.size + 1 + 1, 7, none⟩ (.slice none 0 0)).setCell ⟨w.heap.size + 1 + 1, 8, none⟩ (.slice none 0 0)) = V9 at h9 ⊢
    have H9 := hid h9
    clear h9 hi
    have a3 : V9.cell? ⟨w.heap.size, 3, none⟩ = some (.int .u64 0) := H9.out.a.cell 3
    have b3 : V9.cell? ⟨w.heap.size + 1, 3, none⟩ = some (.int .u64 0) := H9.out.b.cell 3
    have g1 : V9.frozen? ⟨w.heap.size + 1 + 1, 9, none⟩ = false := H9.out.x.own 9
    have z1 : V9.cell? ⟨w.heap.size + 1 + 1, 9, none⟩ = some (.bool false) := H9.out.x.cell 9
    go_upto_region 20 with fail
    have h10 : OfN w (V9.setCell ⟨w.heap.size + 1 + 1, 9, none⟩ (.bool false)) #[.slice none 0 0, .slice none 0 0, .bool false, .slice none 0 0, .slice p 0 c, .slice q 0 d, .slice r 0 f, .slice none 0 0, .slice none 0 0, .bool false] := H9.out.set 9 _
    generalize V9.setCell ⟨w.heap.size + 1 + 1, 9, none⟩ (.bool false) = V10 at h10 ⊢
    have HT := hid h10
    clear h10 a3 b3 g1 z1
    have z0 : V10.cell? ⟨w.heap.size + 1 + 1, 0, none⟩ = some (.slice none 0 0) := HT.out.x.cell 0
    have g0 : V10.frozen? ⟨w.heap.size + 1 + 1, 0, none⟩ = false := HT.out.x.own 0
    have e0 : V10.setCell ⟨w.heap.size + 1 + 1, 0, none⟩ (.slice none 0 0) = V10 := setCell_selfN HT.out.x (i := 0) rfl
    have z1 : V10.cell? ⟨w.heap.size + 1 + 1, 1, none⟩ = some (.slice none 0 0) := HT.out.x.cell 1
    have g1 : V10.frozen? ⟨w.heap.size + 1 + 1, 1, none⟩ = false := HT.out.x.own 1
    have e1 : V10.setCell ⟨w.heap.size + 1 + 1, 1, none⟩ (.slice none 0 0) = V10 := setCell_selfN HT.out.x (i := 1) rfl
    have z2 : V10.cell? ⟨w.heap.size + 1 + 1, 2, none⟩ = some (.bool false) := HT.out.x.cell 2
    have g2 : V10.frozen? ⟨w.heap.size + 1 + 1, 2, none⟩ = false := HT.out.x.own 2
    have e2 : V10.setCell ⟨w.heap.size + 1 + 1, 2, none⟩ (.bool false) = V10 := setCell_selfN HT.out.x (i := 2) rfl
    have z3 : V10.cell? ⟨w.heap.size + 1 + 1, 3, none⟩ = some (.slice none 0 0) := HT.out.x.cell 3
    have g3 : V10.frozen? ⟨w.heap.size + 1 + 1, 3, none⟩ = false := HT.out.x.own 3
    have e3 : V10.setCell ⟨w.heap.size + 1 + 1, 3, none⟩ (.slice none 0 0) = V10 := setCell_selfN HT.out.x (i := 3) rfl
    have z4 : V10.cell? ⟨w.heap.size + 1 + 1, 4, none⟩ = some (.slice p 0 c) := HT.out.x.cell 4
    have g4 : V10.frozen? ⟨w.heap.size + 1 + 1, 4, none⟩ = false := HT.out.x.own 4
    have e4 : V10.setCell ⟨w.heap.size + 1 + 1, 4, none⟩ (.slice p 0 c) = V10 := setCell_selfN HT.out.x (i := 4) rfl
    have z5 : V10.cell? ⟨w.heap.size + 1 + 1, 5, none⟩ = some (.slice q 0 d) := HT.out.x.cell 5
    have g5 : V10.frozen? ⟨w.heap.size + 1 + 1, 5, none⟩ = false := HT.out.x.own 5
    have e5 : V10.setCell ⟨w.heap.size + 1 + 1, 5, none⟩ (.slice q 0 d) = V10 := setCell_selfN HT.out.x (i := 5) rfl
    have z6 : V10.cell? ⟨w.heap.size + 1 + 1, 6, none⟩ = some (.slice r 0 f) := HT.out.x.cell 6
    have g6 : V10.frozen? ⟨w.heap.size + 1 + 1, 6, none⟩ = false := HT.out.x.own 6
    have e6 : V10.setCell ⟨w.heap.size + 1 + 1, 6, none⟩ (.slice r 0 f) = V10 := setCell_selfN HT.out.x (i := 6) rfl
    have z7 : V10.cell? ⟨w.heap.size + 1 + 1, 7, none⟩ = some (.slice none 0 0) := HT.out.x.cell 7
    have g7 : V10.frozen? ⟨w.heap.size + 1 + 1, 7, none⟩ = false := HT.out.x.own 7
    have e7 : V10.setCell ⟨w.heap.size + 1 + 1, 7, none⟩ (.slice none 0 0) = V10 := setCell_selfN HT.out.x (i := 7) rfl
    have z8 : V10.cell? ⟨w.heap.size + 1 + 1, 8, none⟩ = some (.slice none 0 0) := HT.out.x.cell 8
    have g8 : V10.frozen? ⟨w.heap.size + 1 + 1, 8, none⟩ = false := HT.out.x.own 8
    have e8 : V10.setCell ⟨w.heap.size + 1 + 1, 8, none⟩ (.slice none 0 0) = V10 := setCell_selfN HT.out.x (i := 8) rfl
    have z9 : V10.cell? ⟨w.heap.size + 1 + 1, 9, none⟩ = some (.bool false) := HT.out.x.cell 9
    have g9 : V10.frozen? ⟨w.heap.size + 1 + 1, 9, none⟩ = false := HT.out.x.own 9
    have e9 : V10.setCell ⟨w.heap.size + 1 + 1, 9, none⟩ (.bool false) = V10 := setCell_selfN HT.out.x (i := 9) rfl
    go_wp2_with fail
    exact bodyPost_ret (v := .tuple #[.agg #[.slice none 0 0, .slice none 0 0, .bool false, .slice none 0 0, .slice p 0 c, .slice q 0 d, .slice r 0 f, .slice none 0 0, .slice none 0 0, .bool false], .int .i64 0]) (by simp [results, Tryz.results4, go_sem, z0, z1, z2, z3, z4, z5, z6, z7, z8, z9]) rfl ⟨p, q, r, c, d, f, rfl, HT.out.bel⟩
end Go.Proofs.YtjfkgdfmkofbmaaGreatDoor
