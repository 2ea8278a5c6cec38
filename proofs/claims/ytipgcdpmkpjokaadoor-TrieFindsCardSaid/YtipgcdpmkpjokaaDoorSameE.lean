/- The reference's Same over exports that are the same; the statements' own row. -/
import Derived.Test.YtipgcdpmkpjokaaDoorAllE
namespace Go.Proofs.YtipgcdpmkpjokaaDoor
set_option linter.unusedSimpArgs false
set_option linter.unusedVariables false
open Go.RowKit

theorem ES.form {w : World} {v : Value} {l : List Exp} (h : ES w v l) : ∃ a cap, v = .slice a l.length cap := by
  obtain ⟨a, cap, rfl, _⟩ := h
  exact ⟨a, cap, rfl⟩

theorem ES.len {w : World} {v : Value} {l : List Exp} (h : ES w v l) : l.length ≤ 140737488355328 := by obtain ⟨a, cap, rfl, _, h1, _⟩ := h; exact h1.2

theorem ES.at {w : World} {a : Option Addr} {n cap : Nat} {l : List Exp} (h : ES w (.slice a n cap) l) {k : Nat} {x : Exp} (hx : l[k]? = some x) :
    ∃ g off, a = some ⟨g, off, none⟩ ∧ w.cell? ⟨g, off + k * 7, none⟩ = some (.string (mkS x.name)) ∧ w.cell? ⟨g, off + k * 7 + 1, none⟩ = some (.int .i64 x.kind) ∧ w.cell? ⟨g, off + k * 7 + 2, none⟩ = some (.bool x.weak) ∧ w.cell? ⟨g, off + k * 7 + 3, none⟩ = some (.int .u64 (x.value : Int)) ∧ w.cell? ⟨g, off + k * 7 + 4, none⟩ = some (.int .u64 (x.resolver : Int)) ∧ w.cell? ⟨g, off + k * 7 + 5, none⟩ = some (.int .u64 (x.ordinal : Int)) ∧ w.cell? ⟨g, off + k * 7 + 6, none⟩ = some (.string (mkS x.other)) := by
  obtain ⟨a', cap', he, h1, h2, h3⟩ := h
  cases he
  obtain ⟨g, off, rfl, hc⟩ := h3 (by intro e; rw [e] at hx; simp at hx)
  exact ⟨g, off, rfl, hc k x hx 0 _ rfl, hc k x hx 1 _ rfl, hc k x hx 2 _ rfl, hc k x hx 3 _ rfl, hc k x hx 4 _ rfl, hc k x hx 5 _ rfl, hc k x hx 6 _ rfl⟩

set_option maxHeartbeats 1000000 in
theorem ref_same (w : World) (v1 v2 : Value) (l : List Exp) (h1 : ES w v1 l) (h2 : ES w v2 l) :
    Calls Tryd.prog 15 #[v1, v2] w fun e w' => e = .returned (.bool true) ∧ ∃ q, w' = w.drewN q := by
  obtain ⟨a1, c1, rfl⟩ := h1.form
  obtain ⟨a2, c2, rfl⟩ := h2.form
  have hll := h1.len
  have hne : ((l.length : Int) != (l.length : Int)) = false := by simp
  have H := hid (And.intro h1 h2)
  clear h1 h2
  go_enter Tryd.func15, Tryd.ntmps15
  go_wp2_with fail
  go_loopw [5] (fun i wr => ∃ k q : Nat, k ≤ l.length ∧ i = .int .i64 (k : Int) ∧ wr = w.drewN q) (fun i _ => l.length - (intOf i).toNat)
  case atStart => exact ⟨0, 0, Nat.zero_le _, rfl, rfl⟩
  case round =>
    obtain ⟨k, q, hk, rfl, rfl⟩ := hrel
    by_cases hlt : k < l.length
    · obtain ⟨x, hx⟩ : ∃ x, l[k]? = some x := ⟨_, List.getElem?_eq_getElem hlt⟩
      obtain ⟨g1, o1, rfl, x0, x1, x2, x3, x4, x5, x6⟩ := H.out.1.at hx
      obtain ⟨g2, o2, rfl, y0, y1, y2, y3, y4, y5, y6⟩ := H.out.2.at hx
      clear hx
      go_wp2
      go_quiet (fail)
      go_wp2
      go_roundw
      case rel => exact ⟨k + 1, _, by omega, by go_num, rfl⟩
      case measure => simp [intOf]; omega
    · go_wp2
      go_ret
      exact ⟨rfl, _, rfl⟩

theorem all_one : allT [0, 1, 97, 0, 5, 2, 0, 7, 0] = (0, [⟨[97], 1, false, 7, 0, 0, []⟩]) := by kernel_rfl
theorem all_two : (allT [0, 1, 97, 0, 0]).1 = 12 := by kernel_rfl
theorem known_one : allS [0, 1, 97, 0, 5, 2, 0, 7, 0] = (0, [⟨[97], 1, false, 7, 0, 0, []⟩]) := by unfold allS; rw [all_one]; simp [byNames]
theorem known_two : (allS [0, 1, 97, 0, 0]).1 = 12 := all_two

theorem ES.lit (w : World) (l : List Exp) (t : TypeId) (hl : l.length ≤ 140737488355328) : ES (w.alloc (.cells (expCells l).toArray t)) (.slice (some ⟨w.heap.size, 0, none⟩) l.length l.length) l :=
  ES.of_owns (base := 0) (e := t) ⟨expCells_length l, .inr ⟨w.heap.size, l.length, (expCells l).toArray, rfl, Nat.zero_le _, heap_alloc_new w _, Nat.le_refl _, Nat.le_trans hl (by decide), by simp [expCells_length], List.take_of_length_le (by simp [expCells_length])⟩⟩ hl

theorem BS.lit (w : World) (l : List UInt8) (hl : l.length ≤ 140737488355328) : BS (w.alloc (.cells (u8s l).toArray 5)) (.slice (some ⟨w.heap.size, 0, none⟩) l.length l.length) l := (OB.laid w l hl).bs hl

theorem lit_one (w : World) : BS (w.alloc (.cells #[.int .u8 0, .int .u8 1, .int .u8 97, .int .u8 0, .int .u8 5, .int .u8 2, .int .u8 0, .int .u8 7, .int .u8 0] 5)) (.slice (some ⟨w.heap.size, 0, none⟩) 9 9) [0, 1, 97, 0, 5, 2, 0, 7, 0] := BS.lit w [0, 1, 97, 0, 5, 2, 0, 7, 0] (by simp)
theorem lit_two (w : World) : BS (w.alloc (.cells #[.int .u8 0, .int .u8 1, .int .u8 97, .int .u8 0, .int .u8 0] 5)) (.slice (some ⟨w.heap.size, 0, none⟩) 5 5) [0, 1, 97, 0, 0] := BS.lit w [0, 1, 97, 0, 0] (by simp)
theorem lit_exp (w : World) : ES (w.alloc (.cells #[.string ⟨#[97]⟩, .int .i64 1, .bool false, .int .u64 7, .int .u64 0, .int .u64 0, .string ⟨#[]⟩] 25)) (.slice (some ⟨w.heap.size, 0, none⟩) 1 1) [⟨[97], 1, false, 7, 0, 0, []⟩] := ES.lit w [⟨[97], 1, false, 7, 0, 0, []⟩] _ (by simp)

theorem ET.below {w w' : World} (h : ET w) (hb : Below w.heap.size w w') : ET w' := by
  have hlt := lt_of_cell h
  unfold ET at h ⊢
  rw [hb.cell (p := ⟨1, 0, none⟩) hlt]; exact h

set_option maxHeartbeats 1000000 in
theorem trie_known (w : World) (het : ET w) : Calls Tryd.prog 8 #[] w fun e w' => e = .returned (.bool true) ∧ Below w.heap.size w w' := by
  have H := hid het
  clear het
  go_enter Tryd.func8, Tryd.ntmps8
  go_wp2_with fail
  have a1 : Below w.heap.size w (w.alloc (.cells #[.int .u8 0, .int .u8 1, .int .u8 97, .int .u8 0, .int .u8 5, .int .u8 2, .int .u8 0, .int .u8 7, .int .u8 0] 5)) := (Below.refl _ _).alloc (Nat.le_refl _) _
  refine (trie_all _ _ 9 9 _ (lit_one w) (H.out.below a1)).mono ?_
  rintro e w1 ⟨v, rfl, hes, hb1⟩
  rw [known_one] at hes ⊢
  have hb1' : Below w.heap.size w w1 := a1.trans (hb1.mono a1.size)
  have H1 := hid (And.intro hes hb1')
  clear hes hb1 hb1' a1
  go_wp2_with fail
  have a2 : Below w1.heap.size w1 (w1.alloc (.cells #[.int .u8 0, .int .u8 1, .int .u8 97, .int .u8 0, .int .u8 0] 5)) := (Below.refl _ _).alloc (Nat.le_refl _) _
  refine (trie_all _ _ 5 5 _ (lit_two w1) ((H.out.below H1.out.2).below a2)).mono ?_
  rintro e w2 ⟨v2, rfl, -, hb2⟩
  rw [known_two]
  have hb2' : Below w1.heap.size w1 w2 := a2.trans (hb2.mono a2.size)
  have H2 := hid hb2'
  clear hb2 hb2' a2
  go_wp2_with fail
  have a3 : Below w2.heap.size w2 (w2.alloc (.cells #[.string ⟨#[97]⟩, .int .i64 1, .bool false, .int .u64 7, .int .u64 0, .int .u64 0, .string ⟨#[]⟩] 25)) := (Below.refl _ _).alloc (Nat.le_refl _) _
  refine (ref_same _ _ _ _ ((H1.out.1.below H2.out).below a3) (lit_exp w2)).mono ?_
  rintro e w3 ⟨rfl, q, rfl⟩
  have H3 := hid ((H1.out.2.trans (H2.out.mono H1.out.2.size)).trans (a3.mono (Nat.le_trans H1.out.2.size H2.out.size)))
  clear a3
  go_wp2_with fail
  go_ret
  exact ⟨rfl, ⟨H3.out.os, H3.out.tape, H3.out.output, H3.out.size, H3.out.block⟩⟩
end Go.Proofs.YtipgcdpmkpjokaaDoor
