/- Memory, whatever the pieces are. -/
import Derived.Test.YtjfkgdfmkofbmaaGreatDoorZBpS
import Derived.Test.YtjfkgdfmkofbmaaGreatDoorZBrB
namespace Go.Proofs.YtjfkgdfmkofbmaaGreatDoor
set_option linter.unusedSimpArgs false
set_option linter.unusedVariables false
open Go.RowKit

/-- May both be? -/
def bothB (A B : List Pz) : Bool := mayZ A && mayZ B
def rowsZ (A B : List Pz) : Rz := if bothB A B = true then memZ A B else ⟨[], [], []⟩
def errZ (b : Bool) : Int := if b = true then 0 else 2
def MemEndG (w : World) (r : Rz) (n : Int) (e : Ending) (w' : World) : Prop :=
  ∃ X vl vg vp Ll Lg Lp, e = .returned (.tuple #[.agg #[vl, vg, vp], .int .i64 n]) ∧ Below w.heap.size w w' ∧ MemV (fun _ => False) w.heap.size X w' vl vg vp Ll Lg Lp ∧ rzV Ll Lg Lp = r

theorem zero_memV (w W : World) (h : RowAt W w.heap.size 27 #[.slice none 0 0, .slice none 0 0, .slice none 0 0]) : MemV (fun _ => False) w.heap.size w.heap.size W (.slice none 0 0) (.slice none 0 0) (.slice none 0 0) [] [] [] :=
  MemV.nil h (fun h => h)

set_option maxHeartbeats 2000000 in
set_option maxRecDepth 8000 in
theorem bd_memory_no (w : World) (va vb : Value) (A B : List PzV) (hA : PzsAt w va A) (hB : PzsAt w vb B) (hm : bothB (A.map PzV.m) (B.map PzV.m) = false) :
    Calls Tryz.prog 8 #[va, vb] w (MemEndG w ⟨[], [], []⟩ 2) := by
  obtain ⟨pa, ca, rfl⟩ := RowsAt.form hA.rows
  obtain ⟨pb, cb, rfl⟩ := RowsAt.form hB.rows
  have hyA := hid (fun W (hb : Below w.heap.size w W) => bd_may W _ A (hA.below hb))
  have hyB := hid (fun W (hb : Below w.heap.size w W) => bd_may W _ B (hB.below hb))
  have hm' := hid hm
  clear hA hB hm
  refine (callsIn_wide (n := 3)).1 ?_
  refine callsIn_of_wp_marks Tryz.func8 rfl trivial ?_ rfl
  simp only [Tryz.ntmps8, List.size_toArray, List.length_cons, List.length_nil, Nat.reduceAdd, Nat.reduceSub, Array.replicate_succ, Array.replicate_zero, List.push_toArray, List.append_toArray, List.nil_append, List.cons_append]
  gi_wp2
  obtain ⟨W1, hW1⟩ : ∃ W1, W1 = w.alloc (.cells #[.slice none 0 0, .slice none 0 0, .slice none 0 0] 27) := ⟨_, rfl⟩
  have hb1 : Below w.heap.size w W1 := by rw [hW1]; exact (Below.refl _ _).alloc (Nat.le_refl _) _
  have hr1 : RowAt W1 w.heap.size 27 #[.slice none 0 0, .slice none 0 0, .slice none 0 0] := by rw [hW1]; exact heap_alloc_new w _
  rw [← hW1]
  clear hW1
  refine ⟨trivial, callsIn_wide.2 ((hyA.out _ hb1).mono ?_)⟩
  rintro e w2 ⟨rfl, hb2⟩
  have hbw2 := hb1.trans (hb2.mono hb1.size)
  have hr2 := RowAt.below hr1 hb2
  cases hmA : mayZ (A.map PzV.m) with
  | false =>
    have HF := hid (And.intro hbw2 hr2)
    have z0 : w2.cell? ⟨w.heap.size, 0, none⟩ = some (.slice none 0 0) := hr2.cell 0
    have z1 : w2.cell? ⟨w.heap.size, 1, none⟩ = some (.slice none 0 0) := hr2.cell 1
    have z2 : w2.cell? ⟨w.heap.size, 2, none⟩ = some (.slice none 0 0) := hr2.cell 2
    have f0 := hr2.own 0
    have f1 := hr2.own 1
    have f2 := hr2.own 2
    have s0 : w2.setCell ⟨w.heap.size, 0, none⟩ (.slice none 0 0) = w2 := setCell_selfB (i := 0) hr2 rfl
    have s1 : w2.setCell ⟨w.heap.size, 1, none⟩ (.slice none 0 0) = w2 := setCell_selfB (i := 1) hr2 rfl
    have s2 : w2.setCell ⟨w.heap.size, 2, none⟩ (.slice none 0 0) = w2 := setCell_selfB (i := 2) hr2 rfl
    clear hb1 hr1 hb2 hbw2 hr2
    gi_wp2
    refine ⟨trivial, ?_⟩
    gi_wp2
    refine ⟨.tuple #[.agg #[.slice none 0 0, .slice none 0 0, .slice none 0 0], .int .i64 2], by simp [results, Tryz.results8, go_sem, z0, z1, z2], ?_⟩
    exact ⟨_, _, _, _, [], [], [], rfl, HF.out.1, zero_memV w w2 HF.out.2, rfl⟩
  | true =>
    have hmB : mayZ (B.map PzV.m) = false := by have := hm'.out; unfold bothB at this; rw [hmA] at this; simpa using this
    have HF := hid (And.intro hbw2 hr2)
    clear hb1 hr1 hb2 hbw2 hr2
    gi_wp2
    refine ⟨trivial, callsIn_wide.2 ((hyB.out _ HF.out.1).mono ?_)⟩
    rintro e w3 ⟨rfl, hb3⟩
    rw [hmB]
    have hbw3 := HF.out.1.trans (hb3.mono HF.out.1.size)
    have hr3 := RowAt.below HF.out.2 hb3
    have HF3 := hid (And.intro hbw3 hr3)
    have z0 : w3.cell? ⟨w.heap.size, 0, none⟩ = some (.slice none 0 0) := hr3.cell 0
    have z1 : w3.cell? ⟨w.heap.size, 1, none⟩ = some (.slice none 0 0) := hr3.cell 1
    have z2 : w3.cell? ⟨w.heap.size, 2, none⟩ = some (.slice none 0 0) := hr3.cell 2
    have f0 := hr3.own 0
    have f1 := hr3.own 1
    have f2 := hr3.own 2
    have s0 : w3.setCell ⟨w.heap.size, 0, none⟩ (.slice none 0 0) = w3 := setCell_selfB (i := 0) hr3 rfl
    have s1 : w3.setCell ⟨w.heap.size, 1, none⟩ (.slice none 0 0) = w3 := setCell_selfB (i := 1) hr3 rfl
    have s2 : w3.setCell ⟨w.heap.size, 2, none⟩ (.slice none 0 0) = w3 := setCell_selfB (i := 2) hr3 rfl
    clear hb3 hbw3 hr3
    gi_wp2
    refine ⟨.tuple #[.agg #[.slice none 0 0, .slice none 0 0, .slice none 0 0], .int .i64 2], by simp [results, Tryz.results8, go_sem, z0, z1, z2], ?_⟩
    exact ⟨_, _, _, _, [], [], [], rfl, HF3.out.1, zero_memV w w3 HF3.out.2, rfl⟩

theorem bd_mem (w : World) (va vb : Value) (A B : List PzV) (hA : PzsAt w va A) (hB : PzsAt w vb B) (hla : A.length ≤ 20000) (hlb : B.length ≤ 20000) (hca : (cellsZ (A.map PzV.m)).length ≤ 90000) :
    Calls Tryz.prog 8 #[va, vb] w (MemEndG w (rowsZ (A.map PzV.m) (B.map PzV.m)) (errZ (bothB (A.map PzV.m) (B.map PzV.m)))) := by
  cases hb : bothB (A.map PzV.m) (B.map PzV.m) with
  | false =>
    unfold rowsZ
    rw [hb]
    exact bd_memory_no w va vb A B hA hB hb
  | true =>
    unfold rowsZ
    rw [hb]
    have h2 := hb
    unfold bothB at h2
    rw [Bool.and_eq_true] at h2
    exact bd_memory w va vb A B hA hB hla hlb h2.1 h2.2 hca
end Go.Proofs.YtjfkgdfmkofbmaaGreatDoor
