/- The document's Memory, whatever the pieces are. -/
import Derived.Test.YthlnjfnjmjdohaaZBrF
import Derived.Test.YthlnjfnjmjdohaaZLwC
namespace Go.Proofs.Ythlnjfnjmjdohaa
set_option linter.unusedSimpArgs false
set_option linter.unusedVariables false
open Go.RowKit

theorem PasAt.nil (w : World) : PasAt w (.slice none 0 0) [] := ⟨RowsAt.nil w, by simp, by simp⟩

set_option maxHeartbeats 2000000 in
set_option maxRecDepth 8000 in
theorem br_memory_no (w : World) (va vb : Value) (A B : List PzV) (hA : PzsAt w va A) (hB : PzsAt w vb B) (hla : A.length ≤ 1000) (hlb : B.length ≤ 1000) (hca : (cellsZ (A.map PzV.m)).length ≤ 90000) (hcb : (cellsZ (B.map PzV.m)).length ≤ 90000) (hm : bothB (A.map PzV.m) (B.map PzV.m) = false) :
    Calls Try.prog 10 #[va, vb] w (RMemEndG w ⟨[], [], []⟩ 2) := by
  have hcA := hid (fun W (hb : Below w.heap.size w W) => br_cells W va A (hA.below hb) (by omega) (by omega))
  have hcB := hid (fun W (hb : Below w.heap.size w W) => br_cells W vb B (hB.below hb) (by omega) (by omega))
  obtain ⟨pa, ca, rfl⟩ := RowsAt.form hA.rows
  obtain ⟨pb, cb, rfl⟩ := RowsAt.form hB.rows
  obtain ⟨na, hna⟩ : ∃ n, n = A.length := ⟨_, rfl⟩
  obtain ⟨nb, hnb⟩ : ∃ n, n = B.length := ⟨_, rfl⟩
  rw [← hna] at hcA ⊢
  rw [← hnb] at hcB ⊢
  obtain ⟨ma, hma⟩ : ∃ b, b = mayZ (A.map PzV.m) := ⟨_, rfl⟩
  obtain ⟨mb, hmb⟩ : ∃ b, b = mayZ (B.map PzV.m) := ⟨_, rfl⟩
  have hmm : (ma && mb) = false := by rw [hma, hmb]; exact hm
  have H := hid (And.intro hmm (And.intro hma hmb))
  clear hA hB hla hlb hca hcb hm hna hnb hma hmb hmm
  go_enter Try.func10, Try.ntmps10
  go_upto_region 1 with fail
  obtain ⟨W1, hW1⟩ : ∃ W1, W1 = w.alloc (.cells #[.slice none 0 0, .slice none 0 0, .slice none 0 0] 28) := ⟨_, rfl⟩
  have hb1 : Below w.heap.size w W1 := by rw [hW1]; exact (Below.refl _ _).alloc (Nat.le_refl _) _
  have hr1 : RowAt W1 w.heap.size 28 #[.slice none 0 0, .slice none 0 0, .slice none 0 0] := by rw [hW1]; exact heap_alloc_new w _
  rw [← hW1]
  clear hW1
  go_wp2_with fail
  refine (hcA.out _ hb1).mono ?_
  intro e w2 hend
  obtain ⟨vx, rfl, hb2, hox⟩ := hend
  obtain ⟨x1, x2, x3, rfl⟩ := own_form hox
  rw [← H.out.2.1]
  have hbw2 := hb1.trans (hb2.mono hb1.size)
  have hr2 := RowAt.below hr1 hb2
  have HA := hid (And.intro hbw2 hr2)
  clear hox hb1 hr1 hb2 hbw2 hr2
  go_wp2_with fail
  refine (hcB.out _ HA.out.1).mono ?_
  intro e w3 hend
  obtain ⟨vy, rfl, hb3, hoy⟩ := hend
  obtain ⟨z1, z2, z3, rfl⟩ := own_form hoy
  rw [← H.out.2.2]
  have hbw3 := HA.out.1.trans (hb3.mono HA.out.1.size)
  have hr3 := RowAt.below HA.out.2 hb3
  have HB := hid (And.intro hbw3 hr3)
  have z0 : w3.cell? ⟨w.heap.size, 0, none⟩ = some (.slice none 0 0) := hr3.cell 0
  have zz1 : w3.cell? ⟨w.heap.size, 1, none⟩ = some (.slice none 0 0) := hr3.cell 1
  have zz2 : w3.cell? ⟨w.heap.size, 2, none⟩ = some (.slice none 0 0) := hr3.cell 2
  have f0 := hr3.own 0
  have f1 := hr3.own 1
  have f2 := hr3.own 2
  have s0 : w3.setCell ⟨w.heap.size, 0, none⟩ (.slice none 0 0) = w3 := setCell_selfB (i := 0) hr3 rfl
  have s1 : w3.setCell ⟨w.heap.size, 1, none⟩ (.slice none 0 0) = w3 := setCell_selfB (i := 1) hr3 rfl
  have s2 : w3.setCell ⟨w.heap.size, 2, none⟩ (.slice none 0 0) = w3 := setCell_selfB (i := 2) hr3 rfl
  clear hoy hb3 hbw3 hr3 hcA hcB
  cases ma with
  | false =>
    go_wp2_with fail
    refine bodyPost_ret (v := .tuple #[.agg #[.slice none 0 0, .slice none 0 0, .slice none 0 0], .int .i64 2]) (by simp [results, Try.results10, go_sem, z0, zz1, zz2]) rfl ?_
    exact ⟨_, _, _, [], [], [], rfl, HB.out.1, PzsAt.nil _, PzsAt.nil _, PasAt.nil _, rfl⟩
  | true =>
    have : mb = false := by have := H.out.1; simpa using this
    subst this
    go_wp2_with fail
    refine bodyPost_ret (v := .tuple #[.agg #[.slice none 0 0, .slice none 0 0, .slice none 0 0], .int .i64 2]) (by simp [results, Try.results10, go_sem, z0, zz1, zz2]) rfl ?_
    exact ⟨_, _, _, [], [], [], rfl, HB.out.1, PzsAt.nil _, PzsAt.nil _, PasAt.nil _, rfl⟩

theorem br_mem (w : World) (va vb : Value) (A B : List PzV) (hA : PzsAt w va A) (hB : PzsAt w vb B) (hla : A.length ≤ 1000) (hlb : B.length ≤ 1000) (hca : (cellsZ (A.map PzV.m)).length ≤ 90000) (hcb : (cellsZ (B.map PzV.m)).length ≤ 90000) :
    Calls Try.prog 10 #[va, vb] w (RMemEndG w (rowsZ (A.map PzV.m) (B.map PzV.m)) (errZ (bothB (A.map PzV.m) (B.map PzV.m)))) := by
  cases hb : bothB (A.map PzV.m) (B.map PzV.m) with
  | false =>
    unfold rowsZ
    rw [hb]
    exact br_memory_no w va vb A B hA hB hla hlb hca hcb hb
  | true =>
    unfold rowsZ
    rw [hb]
    have h2 := hb
    unfold bothB at h2
    rw [Bool.and_eq_true] at h2
    exact br_memory w va vb A B hA hB hla hlb h2.1 h2.2 hca hcb
end Go.Proofs.Ythlnjfnjmjdohaa
