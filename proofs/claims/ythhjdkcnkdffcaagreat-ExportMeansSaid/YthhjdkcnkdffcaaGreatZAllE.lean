/- Package trie: all exports. -/
import Derived.Test.YthhjdkcnkdffcaaGreatZAllB
import Derived.Test.YthhjdkcnkdffcaaGreatZSortE
import Derived.Test.YthhjdkcnkdffcaaGreatZCurB
import Derived.Laws.EntriesVeiled
namespace Go.Proofs.YthhjdkcnkdffcaaGreat
set_option linter.unusedSimpArgs false
set_option linter.unusedVariables false
open Go.RowKit Go.Sort
/-- All exports, by rising names, or an error. -/
def allS (l : List UInt8) : Nat × List Exp := ((allT l).1, byNames (allT l).2)
theorem byNames_nil : byNames [] = [] := by simp [byNames]
theorem row5 (w : World) (o0 o1 o2 o3 o4 : Obj) : (((((w.alloc o0).alloc o1).alloc o2).alloc o3).alloc o4).heap[w.heap.size]? = some o0 ∧ (((((w.alloc o0).alloc o1).alloc o2).alloc o3).alloc o4).heap[w.heap.size + 1]? = some o1 ∧ (((((w.alloc o0).alloc o1).alloc o2).alloc o3).alloc o4).heap[w.heap.size + 2]? = some o2 ∧ (((((w.alloc o0).alloc o1).alloc o2).alloc o3).alloc o4).heap[w.heap.size + 3]? = some o3 ∧ (((((w.alloc o0).alloc o1).alloc o2).alloc o3).alloc o4).heap[w.heap.size + 4]? = some o4 := by
  refine ⟨?_, ?_, ?_, ?_, ?_⟩
  · have hs : w.heap.size = w.heap.size := rfl
    exact (Below.heap_alloc ((((w.alloc o0).alloc o1).alloc o2).alloc o3) o4 _ (by simp; try omega)).trans ((Below.heap_alloc (((w.alloc o0).alloc o1).alloc o2) o3 _ (by simp; try omega)).trans ((Below.heap_alloc ((w.alloc o0).alloc o1) o2 _ (by simp; try omega)).trans ((Below.heap_alloc (w.alloc o0) o1 _ (by simp; try omega)).trans (heap_alloc_new w o0))))
  · have hs : (w.alloc o0).heap.size = w.heap.size + 1 := by simp
    rw [← hs]; exact (Below.heap_alloc ((((w.alloc o0).alloc o1).alloc o2).alloc o3) o4 _ (by simp; try omega)).trans ((Below.heap_alloc (((w.alloc o0).alloc o1).alloc o2) o3 _ (by simp; try omega)).trans ((Below.heap_alloc ((w.alloc o0).alloc o1) o2 _ (by simp; try omega)).trans (heap_alloc_new (w.alloc o0) o1)))
  · have hs : ((w.alloc o0).alloc o1).heap.size = w.heap.size + 2 := by simp
    rw [← hs]; exact (Below.heap_alloc ((((w.alloc o0).alloc o1).alloc o2).alloc o3) o4 _ (by simp; try omega)).trans ((Below.heap_alloc (((w.alloc o0).alloc o1).alloc o2) o3 _ (by simp; try omega)).trans (heap_alloc_new ((w.alloc o0).alloc o1) o2))
  · have hs : (((w.alloc o0).alloc o1).alloc o2).heap.size = w.heap.size + 3 := by simp
    rw [← hs]; exact (Below.heap_alloc ((((w.alloc o0).alloc o1).alloc o2).alloc o3) o4 _ (by simp; try omega)).trans (heap_alloc_new (((w.alloc o0).alloc o1).alloc o2) o3)
  · have hs : ((((w.alloc o0).alloc o1).alloc o2).alloc o3).heap.size = w.heap.size + 4 := by simp
    rw [← hs]; exact heap_alloc_new ((((w.alloc o0).alloc o1).alloc o2).alloc o3) o4
end Go.Proofs.YthhjdkcnkdffcaaGreat

namespace Go.Proofs.YthhjdkcnkdffcaaGreat
set_option linter.unusedSimpArgs false
set_option linter.unusedVariables false
open Go.RowKit
theorem ES.form {w : World} {v : Value} {l : List Exp} (h : ES w v l) : ∃ a cap, v = .slice a l.length cap := by
  obtain ⟨a, cap, rfl, _⟩ := h
  exact ⟨a, cap, rfl⟩
theorem ES.len {w : World} {v : Value} {l : List Exp} (h : ES w v l) : l.length ≤ 140737488355328 := by obtain ⟨a, cap, rfl, _, h1, _⟩ := h; exact h1.2
theorem ES.at {w : World} {a : Option Addr} {n cap : Nat} {l : List Exp} (h : ES w (.slice a n cap) l) {k : Nat} {x : Exp} (hx : l[k]? = some x) :
    ∃ g off, a = some ⟨g, off, none⟩ ∧ w.cell? ⟨g, off + k * 7, none⟩ = some (.string (mkS x.name)) ∧ w.cell? ⟨g, off + k * 7 + 1, none⟩ = some (.int .i64 x.kind) ∧ w.cell? ⟨g, off + k * 7 + 2, none⟩ = some (.bool x.weak) ∧ w.cell? ⟨g, off + k * 7 + 3, none⟩ = some (.int .u64 (x.value : Int)) ∧ w.cell? ⟨g, off + k * 7 + 4, none⟩ = some (.int .u64 (x.resolver : Int)) ∧ w.cell? ⟨g, off + k * 7 + 5, none⟩ = some (.int .u64 (x.ordinal : Int)) ∧ w.cell? ⟨g, off + k * 7 + 6, none⟩ = some (.string (mkS x.other)) := by
  obtain ⟨a', cap', he, h1, h2, h3⟩ := h
  cases he
  obtain ⟨g, off, rfl, hc⟩ := h3 (by intro e; rw [e] at hx; simp at hx)
  exact ⟨g, off, rfl, hc k x hx 0 _ rfl, hc k x hx 1 _ rfl, hc k x hx 2 _ rfl, hc k x hx 3 _ rfl, hc k x hx 4 _ rfl, hc k x hx 5 _ rfl, hc k x hx 6 _ rfl⟩
set_option maxHeartbeats 1000000 in
theorem ref_same (w : World) (v1 v2 : Value) (l : List Exp) (h1 : ES w v1 l) (h2 : ES w v2 l) :
    Calls Tryz.prog 15 #[v1, v2] w fun e w' => e = .returned (.bool true) ∧ ∃ q, w' = w.drewN q := by
  obtain ⟨a1, c1, rfl⟩ := h1.form
  obtain ⟨a2, c2, rfl⟩ := h2.form
  have hll := h1.len
  have hne : ((l.length : Int) != (l.length : Int)) = false := by simp
  have H := hid (And.intro h1 h2)
  clear h1 h2
  go_enter Tryz.func15, Tryz.ntmps15
  go_wp2_with fail
  go_loopw [5] (fun i wr => ∃ k q : Nat, k ≤ l.length ∧ i = .int .i64 (k : Int) ∧ wr = w.drewN q) (fun i _ => l.length - (intOf i).toNat)
  case atStart => exact ⟨0, 0, Nat.zero_le _, rfl, rfl⟩
  case round =>
    obtain ⟨k, q, hk, rfl, rfl⟩ := hrel
    by_cases hlt : k < l.length
    · obtain ⟨x, hx⟩ : ∃ x, l[k]? = some x := ⟨_, List.getElem?_eq_getElem hlt⟩
      obtain ⟨g1, o1, rfl, x0, x1, x2, x3, x4, x5, x6⟩ := H.out.1.at hx
      obtain ⟨g2, o2, rfl, y0, y1, y2, y3, y4, y5, y6⟩ := H.out.2.at hx
      clear hx
      go_wp2
      go_quiet (fail)
      go_wp2
      go_roundw
      case rel => exact ⟨k + 1, _, by omega, by go_num, rfl⟩
      case measure => simp [intOf]; omega
    · go_wp2
      go_ret
      exact ⟨rfl, _, rfl⟩
theorem ET.below {w w' : World} (h : ET w) (hb : Below w.heap.size w w') : ET w' := by
  have hlt := lt_of_cellB h
  unfold ET at h ⊢
  rw [hb.cell (p := ⟨0, 0, none⟩) hlt]; exact h
end Go.Proofs.YthhjdkcnkdffcaaGreat
