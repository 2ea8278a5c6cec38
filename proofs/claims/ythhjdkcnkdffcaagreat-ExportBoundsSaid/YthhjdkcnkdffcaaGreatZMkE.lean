/- What two texts begin with, both: the reference's share. -/
import Derived.Test.YthhjdkcnkdffcaaGreatZMkD
namespace Go.Proofs.YthhjdkcnkdffcaaGreat
set_option linter.unusedSimpArgs false
set_option linter.unusedVariables false
open Go.RowKit
theorem share_stop {a b : List UInt8} {j : Nat} (ha : j ≤ a.length) (hb : j ≤ b.length) (h : a.take j = b.take j) (hs : j = a.length ∨ j = b.length ∨ ∃ c d, a[j]? = some c ∧ b[j]? = some d ∧ c ≠ d) : shareL a b = a.take j := by
  have h1 : a.take j <+: shareL a b := (share_iff _ _ _).2 ⟨List.take_prefix _ _, by rw [h]; exact List.take_prefix _ _⟩
  have hl1 := (share_left a b).length_le
  have hl2 := (share_right a b).length_le
  have hlt : (a.take j).length = j := by rw [List.length_take]; omega
  refine (prefix_eq h1 ?_).symm
  rw [hlt]
  rcases hs with hs | hs | ⟨c, d, hc, hd, hne⟩
  · omega
  · omega
  · rcases Nat.lt_or_ge j (shareL a b).length with h2 | h2
    · exfalso
      obtain ⟨s, hs⟩ := share_left a b
      obtain ⟨t, ht⟩ := share_right a b
      have e1 : a[j]? = (shareL a b)[j]? := by
        conv => lhs; rw [← hs]
        rw [List.getElem?_append_left h2]
      have e2 : b[j]? = (shareL a b)[j]? := by
        conv => lhs; rw [← ht]
        rw [List.getElem?_append_left h2]
      rw [hc] at e1
      rw [hd] at e2
      rw [← e1] at e2
      cases e2
      exact hne rfl
    · exact h2
theorem take_same {a b : List UInt8} {j : Nat} {c : UInt8} (h : a.take j = b.take j) (hc : a[j]? = some c) (hd : b[j]? = some c) : a.take (j + 1) = b.take (j + 1) := by
  rw [take_snoc hc, take_snoc hd, h]
theorem mkS_takeX (r : List UInt8) (k : Nat) (h : k ≤ r.length) : (mkS r).extract 0 k = mkS (r.take k) := by
  apply ByteArray.ext
  rw [ByteArray.data_extract]
  simp [mkS, List.extract_eq_take_drop]
theorem mkS_at {a : List UInt8} {j : Nat} {c : UInt8} (hc : a[j]? = some c) : ∀ h : j < (mkS a).size, (mkS a)[j]'h = c := by
  intro h
  have h1 : a[j]'(List.getElem?_eq_some_iff.1 hc).1 = c := (List.getElem?_eq_some_iff.1 hc).2
  rw [← h1]; rfl
set_option maxHeartbeats 2000000 in
theorem ref_share (w : World) (a b : List UInt8) (ha : a.length ≤ 1000000) (hb : b.length ≤ 1000000) :
    Calls Tryz.prog 22 #[.string (mkS a), .string (mkS b)] w fun e w' => e = .returned (.string (mkS (shareL a b))) ∧ Below w.heap.size w w' := by
  go_enter Tryz.func22, Tryz.ntmps22
  go_wp2_with fail
  go_loopw [5] (fun t5 wr => ∃ j : Nat, j ≤ a.length ∧ j ≤ b.length ∧ t5 = .int .i64 (j : Int) ∧ a.take j = b.take j ∧ Below w.heap.size w wr) (fun t5 _ => a.length - (intOf t5).toNat)
  case atStart => exact ⟨0, Nat.zero_le _, Nat.zero_le _, rfl, rfl, Below.refl _ _⟩
  case round =>
    obtain ⟨j, hja, hjb, rfl, hsame, hbl⟩ := hrel
    have HS := hid (And.intro hsame hbl)
    clear hsame hbl
    by_cases h1 : j < a.length
    · by_cases h2 : j < b.length
      · obtain ⟨c, hc⟩ : ∃ c, a[j]? = some c := ⟨_, List.getElem?_eq_getElem h1⟩
        obtain ⟨d, hd⟩ : ∃ d, b[j]? = some d := ⟨_, List.getElem?_eq_getElem h2⟩
        have d1 : decide (j < a.length) = true := by rw [decide_eq_true_eq]; exact h1
        have d1' : decide ((j : Int) < (a.length : Int)) = true := by rw [decide_eq_true_eq]; omega
        have d2 : decide (j < b.length) = true := by rw [decide_eq_true_eq]; exact h2
        have d2' : decide ((j : Int) < (b.length : Int)) = true := by rw [decide_eq_true_eq]; omega
        have ka := mkS_at hc
        have kb := mkS_at hd
        by_cases hcd : c = d
        · have t1 : ((c.toNat : Int) == (d.toNat : Int)) = true := by rw [beq_iff_eq, hcd]
          have hnext := take_same HS.out.1 hc (hcd ▸ hd)
          have HN := hid hnext
          clear hcd hc hd hnext
          go_wp2_with fail
          go_quiet (fail)
          go_wp2_with fail
          go_roundw
          case rel => exact ⟨j + 1, by have := d1; simp at this; omega, by have := d2; simp at this; omega, by go_num, HN.out, below_drewNX HS.out.2 _⟩
          case measure => have := d1; simp at this; simp [intOf]; omega
        · have t1 : ((c.toNat : Int) == (d.toNat : Int)) = false := by
            rw [beq_eq_false_iff_ne]
            intro e
            exact hcd (UInt8.toNat_inj.1 (by omega))
          have hr := share_stop hja hjb HS.out.1 (.inr (.inr ⟨c, d, hc, hd, hcd⟩))
          have HR := hid (And.intro hr (mkS_takeX a j hja))
          clear hr hc hd hcd
          go_wp2_with fail
          go_quiet (fail)
          go_wp2_with fail
          go_ret
          rw [HR.out.1, HR.out.2]
          exact ⟨rfl, below_drewNX HS.out.2 _⟩
      · have d1 : decide (j < a.length) = true := by rw [decide_eq_true_eq]; exact h1
        have d1' : decide ((j : Int) < (a.length : Int)) = true := by rw [decide_eq_true_eq]; omega
        have d2 : decide (j < b.length) = false := by rw [decide_eq_false_iff_not]; exact h2
        have d2' : decide ((j : Int) < (b.length : Int)) = false := by rw [decide_eq_false_iff_not]; omega
        have hr := share_stop hja hjb HS.out.1 (.inr (.inl (by omega)))
        have HR := hid (And.intro hr (mkS_takeX a j hja))
        clear hr h1 h2
        go_wp2_with fail
        go_quiet (fail)
        go_wp2_with fail
        go_ret
        rw [HR.out.1, HR.out.2]
        exact ⟨rfl, below_drewNX HS.out.2 _⟩
    · have d1 : decide (j < a.length) = false := by rw [decide_eq_false_iff_not]; exact h1
      have d1' : decide ((j : Int) < (a.length : Int)) = false := by rw [decide_eq_false_iff_not]; omega
      have hr := share_stop hja hjb HS.out.1 (.inl (by omega))
      have HR := hid (And.intro hr (mkS_takeX a j hja))
      clear hr h1
      go_wp2_with fail
      go_quiet (fail)
      go_wp2_with fail
      go_ret
      rw [HR.out.1, HR.out.2]
      exact ⟨rfl, below_drewNX HS.out.2 _⟩
end Go.Proofs.YthhjdkcnkdffcaaGreat
