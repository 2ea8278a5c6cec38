/- Package space: SetWord. -/
import Derived.Test.YtacmjpkcimjjpaaSpW
namespace Go.Proofs.Ytacmjpkcimjjpaa
set_option linter.unusedSimpArgs false
set_option linter.unusedVariables false
open Go.RowKit Go.Maps

/-- The bytes of a number, the lowest first. -/
def wordB (n k : Nat) : List UInt8 := (List.range k).map fun i => UInt8.ofNat (n / 256 ^ i % 256)

theorem wordB_length (n k : Nat) : (wordB n k).length = k := by simp [wordB]
theorem wordB_succ (n k : Nat) : wordB n (k + 1) = wordB n k ++ [UInt8.ofNat (n / 256 ^ k % 256)] := by simp [wordB, List.range_succ]

def padB (n k : Nat) : List UInt8 := wordB n k ++ List.replicate (8 - k) 0

theorem padB_next {n k : Nat} (hk : k < 8) : (u8s (padB n k)).toArray.setIfInBounds k (.int .u8 ((n / 256 ^ k % 256 : Nat) : Int)) = (u8s (padB n (k + 1))).toArray := by
  have e1 : 8 - k = (8 - (k + 1)) + 1 := by omega
  have hl := wordB_length n k
  unfold padB
  rw [wordB_succ, e1, List.replicate_succ, List.append_assoc, List.singleton_append]
  unfold u8s
  rw [List.map_append, List.map_append, List.map_cons, List.map_cons, List.setIfInBounds_toArray, List.set_append_right _ _ (by simp [hl])]
  simp [hl]

theorem padB_at {n k : Nat} (hk : k < 8) : (u8s (padB n k)).toArray[k]? = some (.int .u8 0) := by
  have hl := wordB_length n k
  unfold padB u8s
  rw [List.getElem?_toArray, List.getElem?_map, List.getElem?_append_right (by omega), hl, Nat.sub_self, List.getElem?_replicate, if_pos (by omega)]
  rfl

theorem bs_block {w : World} {g : Nat} {l : List UInt8} {t : TypeId} {fr : Nat × Nat} (h : w.heap[g]? = some (.cells (u8s l).toArray t fr)) (hl : l.length ≤ 140737488355328) : BS w (.slice (some ⟨g, 0, none⟩) l.length l.length) l := by
  refine ⟨_, _, rfl, Nat.le_refl _, ⟨Nat.le_trans hl (by decide), hl⟩, fun hne => ⟨g, 0, rfl, fun i x hx => ?_⟩⟩
  rw [Nat.zero_add, cell_of_row _ _ i _ _ _ h]
  simp [u8s, hx]

theorem byte_eq (n k : Nat) : (n : Int) / 2 ^ (8 * k) % 256 = ((n / 256 ^ k % 256 : Nat) : Int) := by
  have e : 256 ^ k = 2 ^ (8 * k) := by rw [Nat.pow_mul]
  rw [e, Int.natCast_emod, Int.natCast_ediv, Int.natCast_pow]
  rfl

set_option maxHeartbeats 1000000 in
theorem sp_setWord (w : World) (s b a n : Nat) (pgs : List Pg) (h : SpAt w s b pgs) (hlen : pgs.length ≤ 8192) (ha : a < 2 ^ 64) (hn : n < 2 ^ 64) :
    Calls Try.prog 31 #[.pointer (some ⟨s, 0, none⟩), .int .u64 (a : Int), .int .u64 (n : Int)] w (WriteEnd w s b a (wordB n 8) pgs) := by
  have H := hid (And.intro h (And.intro hlen (And.intro ha hn)))
  clear h hlen ha hn
  go_enter Try.func31, Try.ntmps31
  go_wp2_with fail
  go_loopw [9] (fun i wr => ∃ k : Nat, k ≤ 8 ∧ i = .int .i64 (k : Int) ∧ RowAt wr w.heap.size 134 (u8s (padB n k)).toArray ∧ Below w.heap.size w wr) (fun i _ => 8 - (intOf i).toNat)
  case atStart => exact ⟨0, by omega, rfl, heap_alloc_new _ _, (Below.refl _ _).alloc (Nat.le_refl _) _⟩
  case round =>
    obtain ⟨k, hk, rfl, hrow, hb⟩ := hrel
    by_cases hlt : k < 8
    · have hltz : decide ((k : Int) < 8) = true := by rw [decide_eq_true_eq]; omega
      have c1 : wr.cell? ⟨w.heap.size, k, none⟩ = some (.int .u8 0) := (hrow.cell k).trans (padB_at hlt)
      have f1 := hrow.own k
      have HR := hid (And.intro hrow hb)
      clear hrow hb
      go_wp2_with fail
      go_roundw
      case rel => exact ⟨k + 1, by omega, rfl, by rw [byte_eq, ← padB_next hlt]; exact HR.out.1.same _, HR.out.2.setCell (Nat.le_refl _) _⟩
      case measure => simp [intOf]; omega
    · have hltz : decide ((k : Int) < 8) = false := by rw [decide_eq_false_iff_not]; omega
      have hk8 : k = 8 := by omega
      have HR := hid (And.intro hrow (And.intro hb hk8))
      clear hrow hb hk8
      go_wp2_with fail
      have hrow8 : RowAt wr w.heap.size 134 (u8s (wordB n 8)).toArray := by
        have := HR.out.1
        rw [HR.out.2.2] at this
        exact this
      have hbs := bs_block hrow8 (by rw [wordB_length]; decide)
      rw [wordB_length] at hbs
      refine (sp_write wr s b a _ (wordB n 8) pgs (H.out.1.below HR.out.2.1) H.out.2.1 hbs H.out.2.2.1 (by rw [wordB_length]; decide) (fun g hg hi => ?_)).mono ?_
      · have h1 := H.out.1.lt.2.2 g hg
        have h2 : w.heap.size = g.blk := hi.2
        omega
      · rintro e w2 ⟨rfl, hsp, hf⟩
        have HX := hid (And.intro hsp ((SpF.of_below HR.out.2.1).trans hf rfl))
        clear hsp hf hbs hrow8
        go_wp2_with fail
        go_ret
        exact ⟨rfl, HX.out.1, HX.out.2⟩
end Go.Proofs.Ytacmjpkcimjjpaa
