/- slices.ContainsFunc over ints and inits; the tests of script.MayTell. Printed off gen_scidx.py's pattern. -/
import Derived.Test.YtfkpbgookilhjaaGreatDoorZScTv
import Derived.Test.YtfkpbgookilhjaaGreatDoorZScC
namespace Go.Proofs.YtfkpbgookilhjaaGreatDoor
set_option linter.unusedSimpArgs false
set_option linter.unusedVariables false
open Go.RowKit

set_option maxHeartbeats 400000 in
theorem tl_bad1 (w : World) (d : Int) : Calls Tryz.prog 49 #[.int .i64 d] w fun e w' => e = .returned (.bool (badD d)) ∧ Below w.heap.size w w' := by
  go_enter Tryz.func49, Tryz.ntmps49
  go_wp2_with fail
  refine (tl_within _ d (-1) 65534).mono ?_
  rintro e w1 ⟨rfl, hb1⟩
  have H := hid hb1
  clear hb1
  go_wp2_with fail
  go_ret
  exact ⟨rfl, H.out⟩

set_option maxHeartbeats 400000 in
theorem tl_bad2 (w : World) (x : InitM) : Calls Tryz.prog 51 #[.agg x.cells.toArray] w fun e w' => e = .returned (.bool (badI x)) ∧ Below w.heap.size w w' := by
  show Calls Tryz.prog 51 #[.agg #[.int .i64 x.image, .int .u64 (x.at_ : Int)]] w _
  have H0 := hid ((Below.refl w.heap.size w).alloc (Nat.le_refl _) (.cells #[.int .i64 x.image, .int .u64 (x.at_ : Int)] 95))
  go_enter Tryz.func51, Tryz.ntmps51
  go_wp2_with fail
  refine (tl_within _ x.image 0 65535).mono ?_
  rintro e w1 ⟨rfl, hb1⟩
  have H := hid (H0.out.trans (hb1.mono H0.out.size))
  clear hb1
  go_wp2_with fail
  go_ret
  exact ⟨rfl, H.out⟩

set_option maxHeartbeats 400000 in
theorem index_ints (w : World) (p : Option Addr) (cap : Nat) (l : List Int) (hv : IntsAt w (.slice p l.length cap) l) :
    Calls Tryz.prog 80 #[.slice p l.length cap, .func (.func 49) #[] #[]] w fun e w' => e = .returned (.int .i64 (idxT badD l)) ∧ Below w.heap.size w w' := by
  have hll : l.length ≤ 9223372036854775807 := hv.len
  have hpl : l.findIdx badD ≤ l.length := List.findIdx_le_length
  have H := hid hv
  clear hv
  go_enter Tryz.func80, Tryz.ntmps80
  go_wp2_with fail
  go_loopw [8] (fun i wr => ∃ k : Nat, k ≤ l.findIdx badD ∧ i = .int .i64 (k : Int) ∧ Below w.heap.size w wr) (fun i _ => l.length - (intOf i).toNat)
  case atStart => exact ⟨0, Nat.zero_le _, rfl, Below.refl _ _⟩
  case round =>
    obtain ⟨k, hk, rfl, hb⟩ := hrel
    have hsz := hb.size
    by_cases hlt : k < l.length
    · obtain ⟨s, hs⟩ : ∃ s, l[k]? = some s := ⟨_, List.getElem?_eq_getElem hlt⟩
      obtain ⟨g, off, rfl, x0⟩ := IntsAt.cell (RowsAt.below H.out hb) hs
      obtain ⟨bq, hbq⟩ : ∃ bq, bq = badD s := ⟨_, rfl⟩
      have HC := hid (fun w => by have := tl_bad1 w s; rwa [← hbq] at this)
      have Hs := hid (And.intro hb (And.intro hs (And.intro hk hbq)))
      clear hb hs hbq hk
      go_wp2_with fail
      refine (HC.out _).mono ?_
      rintro e w1 ⟨rfl, hb1⟩
      have Hb1 := hid hb1
      clear hb1
      cases bq with
      | true =>
        go_wp2
        go_ret
        have hkp := idx_here Hs.out.2.1 Hs.out.2.2.1 Hs.out.2.2.2.symm
        refine ⟨?_, Hs.out.1.trans (Hb1.out.mono hsz)⟩
        rw [idxT_lt (by omega), hkp]
        try rfl
      | false =>
        have hkp := idx_more Hs.out.2.1 Hs.out.2.2.1 Hs.out.2.2.2.symm
        go_wp2
        exact ⟨⟨k + 1, by omega, by go_num, Hs.out.1.trans (Hb1.out.mono hsz)⟩, by simp [intOf]; omega⟩
    · have hkp : l.findIdx badD = k := by omega
      have Hp := hid (And.intro hkp hb)
      clear hkp hb
      go_wp2
      go_ret
      rw [idxT_no (by rw [Hp.out.1]; exact hlt)]
      exact ⟨rfl, Hp.out.2⟩

set_option maxHeartbeats 400000 in
theorem any_ints (w : World) (p : Option Addr) (cap : Nat) (l : List Int) (hv : IntsAt w (.slice p l.length cap) l) :
    Calls Tryz.prog 48 #[.slice p l.length cap, .func (.func 49) #[] #[]] w fun e w' => e = .returned (.bool (l.any badD)) ∧ Below w.heap.size w w' := by
  have hI := index_ints w p cap l hv
  rw [← idxT_any]
  obtain ⟨z, hz⟩ : ∃ z, z = idxT badD l := ⟨_, rfl⟩
  rw [← hz] at hI ⊢
  have HI := hid hI
  clear hI hz hv
  go_enter Tryz.func48, Tryz.ntmps48
  go_wp2_with fail
  refine (HI.out).mono ?_
  rintro e w1 ⟨rfl, hb1⟩
  have H := hid hb1
  clear hb1
  go_wp2_with fail
  go_ret
  exact ⟨rfl, H.out⟩

set_option maxHeartbeats 400000 in
theorem index_inits (w : World) (p : Option Addr) (cap : Nat) (l : List InitM) (hv : InitsAt w (.slice p l.length cap) l) :
    Calls Tryz.prog 81 #[.slice p l.length cap, .func (.func 51) #[] #[]] w fun e w' => e = .returned (.int .i64 (idxT badI l)) ∧ Below w.heap.size w w' := by
  have hll : l.length ≤ 9223372036854775807 := hv.len
  have hpl : l.findIdx badI ≤ l.length := List.findIdx_le_length
  have H := hid hv
  clear hv
  go_enter Tryz.func81, Tryz.ntmps81
  go_wp2_with fail
  go_loopw [8] (fun i wr => ∃ k : Nat, k ≤ l.findIdx badI ∧ i = .int .i64 (k : Int) ∧ Below w.heap.size w wr) (fun i _ => l.length - (intOf i).toNat)
  case atStart => exact ⟨0, Nat.zero_le _, rfl, Below.refl _ _⟩
  case round =>
    obtain ⟨k, hk, rfl, hb⟩ := hrel
    have hsz := hb.size
    by_cases hlt : k < l.length
    · obtain ⟨s, hs⟩ : ∃ s, l[k]? = some s := ⟨_, List.getElem?_eq_getElem hlt⟩
      obtain ⟨g, off, rfl, x0, x1⟩ := InitsAt.cell (RowsAt.below H.out hb) hs
      obtain ⟨bq, hbq⟩ : ∃ bq, bq = badI s := ⟨_, rfl⟩
      have HC := hid (fun w => by have := tl_bad2 w s; rwa [← hbq] at this)
      have Hs := hid (And.intro hb (And.intro hs (And.intro hk hbq)))
      clear hb hs hbq hk
      go_wp2_with fail
      refine (HC.out _).mono ?_
      rintro e w1 ⟨rfl, hb1⟩
      have Hb1 := hid hb1
      clear hb1
      cases bq with
      | true =>
        go_wp2
        go_ret
        have hkp := idx_here Hs.out.2.1 Hs.out.2.2.1 Hs.out.2.2.2.symm
        refine ⟨?_, Hs.out.1.trans (Hb1.out.mono hsz)⟩
        rw [idxT_lt (by omega), hkp]
        try rfl
      | false =>
        have hkp := idx_more Hs.out.2.1 Hs.out.2.2.1 Hs.out.2.2.2.symm
        go_wp2
        exact ⟨⟨k + 1, by omega, by go_num, Hs.out.1.trans (Hb1.out.mono hsz)⟩, by simp [intOf]; omega⟩
    · have hkp : l.findIdx badI = k := by omega
      have Hp := hid (And.intro hkp hb)
      clear hkp hb
      go_wp2
      go_ret
      rw [idxT_no (by rw [Hp.out.1]; exact hlt)]
      exact ⟨rfl, Hp.out.2⟩

set_option maxHeartbeats 400000 in
theorem any_inits (w : World) (p : Option Addr) (cap : Nat) (l : List InitM) (hv : InitsAt w (.slice p l.length cap) l) :
    Calls Tryz.prog 50 #[.slice p l.length cap, .func (.func 51) #[] #[]] w fun e w' => e = .returned (.bool (l.any badI)) ∧ Below w.heap.size w w' := by
  have hI := index_inits w p cap l hv
  rw [← idxT_any]
  obtain ⟨z, hz⟩ : ∃ z, z = idxT badI l := ⟨_, rfl⟩
  rw [← hz] at hI ⊢
  have HI := hid hI
  clear hI hz hv
  go_enter Tryz.func50, Tryz.ntmps50
  go_wp2_with fail
  refine (HI.out).mono ?_
  rintro e w1 ⟨rfl, hb1⟩
  have H := hid hb1
  clear hb1
  go_wp2_with fail
  go_ret
  exact ⟨rfl, H.out⟩
end Go.Proofs.YtfkpbgookilhjaaGreatDoor
