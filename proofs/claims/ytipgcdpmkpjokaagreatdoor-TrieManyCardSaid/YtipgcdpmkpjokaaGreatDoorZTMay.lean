/- Which exports may be: the program's May. -/
import Derived.Test.YtipgcdpmkpjokaaGreatDoorZAllE
import Derived.Deep.RegionHeld3
namespace Go.Proofs.YtipgcdpmkpjokaaGreatDoor
set_option linter.unusedSimpArgs false
set_option linter.unusedVariables false
open Go.RowKit

/-- w' lies over w. -/
def Under (w w' : World) : Prop := Below w.heap.size w w'
theorem under_drew (w w' : World) : Under w w'.drew = Under w w' := propext ⟨fun h => ⟨h.os, h.tape, h.output, h.size, h.block⟩, fun h => ⟨h.os, h.tape, h.output, h.size, h.block⟩⟩
theorem under_drewN (w w' : World) (q : Nat) : Under w (w'.drewN q) = Under w w' := propext ⟨fun h => ⟨h.os, h.tape, h.output, h.size, h.block⟩, fun h => ⟨h.os, h.tape, h.output, h.size, h.block⟩⟩
theorem under_refl (w : World) : Under w w := Below.refl _ _
theorem under_alloc {w w' : World} (h : Under w w') (o : Obj) : Under w (w'.alloc o) := Below.alloc h h.size o

/-- May a text stand there, of so many bytes at least? -/
def textB (s : List UInt8) (least : Nat) : Bool := decide (least ≤ s.length ∧ s.length ≤ 255 ∧ nul s = s.length)

/-- May an export be? -/
def kindB (x : Exp) : Bool :=
  if x.kind = 1 ∨ x.kind = 2 then decide (x.resolver = 0 ∧ x.ordinal = 0 ∧ x.other = [])
  else if x.kind = 3 then decide (x.value = 0 ∧ x.resolver = 0)
  else if x.kind = 4 then decide (x.ordinal = 0 ∧ x.other = [])
  else false
def mayE (x : Exp) : Bool := kindB x && textB x.name 1 && textB x.other 0

theorem ix0 (l : List UInt8) : decide (Lib.indexByte l 0 < 0) = decide (nul l = l.length) := by
  rw [indexByte_nul, decide_eq_decide]
  have := nul_le l
  split <;> omega

theorem index0 (w : World) (l : List UInt8) : Calls Tryz.prog 62 #[.string (mkS l), .int .u8 0] w fun e w' => e = .returned (.int .i64 (Lib.indexByte l 0)) ∧ w = w' := by
  refine (Tryz.strings_IndexByte (mkS l) 0 w).mono ?_
  rintro e w' ⟨rfl, rfl⟩
  exact ⟨rfl, rfl⟩

set_option maxHeartbeats 1000000 in
theorem trie_text (w : World) (nm : List UInt8) (least : Nat) (hl : least ≤ 1) :
    Calls Tryz.prog 40 #[.string (mkS nm), .int .i64 (least : Nat)] w fun e w' => e = .returned (.bool (textB nm least)) ∧ w = w' := by
  have hle := nul_le nm
  by_cases h1 : nm.length < least
  · have hm : textB nm least = false := by unfold textB; simp only [decide_eq_false_iff_not]; omega
    rw [hm]
    clear hm
    have hd : decide ((least : Int) ≤ (nm.length : Int)) = false := by simp; omega
    go_enter Tryz.func40, Tryz.ntmps40
    go_wp2
    go_ret
    exact ⟨rfl, rfl⟩
  have hd : decide ((least : Int) ≤ (nm.length : Int)) = true := by simp; omega
  by_cases h2 : 255 < nm.length
  · have hm : textB nm least = false := by unfold textB; simp only [decide_eq_false_iff_not]; omega
    rw [hm]
    clear hm
    have hd2 : decide ((nm.length : Int) ≤ 255) = false := by simp; omega
    go_enter Tryz.func40, Tryz.ntmps40
    go_wp2
    go_ret
    exact ⟨rfl, rfl⟩
  have hd2 : decide ((nm.length : Int) ≤ 255) = true := by simp; omega
  have hm : textB nm least = decide (Lib.indexByte nm 0 < 0) := by rw [ix0]; unfold textB; rw [decide_eq_decide]; omega
  rw [hm]
  clear hm
  have hx := index0 w nm
  generalize Lib.indexByte nm 0 = K at hx ⊢
  have Hx := hid hx
  clear hx
  go_enter Tryz.func40, Tryz.ntmps40
  go_wp2_with fail
  refine Hx.out.mono ?_
  rintro e w' ⟨rfl, rfl⟩
  go_wp2_with fail
  go_ret
  exact ⟨rfl, rfl⟩

set_option maxHeartbeats 2000000 in
theorem trie_may (w : World) (x : Exp) :
    Calls Tryz.prog 17 #[.agg x.cells.toArray] w fun e w' => e = .returned (.bool (mayE x)) ∧ Below w.heap.size w w' := by
  show Calls Tryz.prog 17 #[.agg #[.string (mkS x.name), .int .i64 x.kind, .bool x.weak, .int .u64 (x.value : Int), .int .u64 (x.resolver : Int), .int .u64 (x.ordinal : Int), .string (mkS x.other)]] w _
  by_cases k1 : x.kind = 1
  · go_enter Tryz.func17, Tryz.ntmps17
    go_wp2_with fail
    all_goals first
      | (have Hz0 : mayE x = false := by simp [mayE, kindB, *]
         have Hz := hid Hz0
         clear Hz0
         go_ret
         rw [Hz.out]
         exact ⟨rfl, (by show Under _ _; (repeat rw [under_drew]); exact under_alloc (under_alloc (under_refl w) _) _)⟩)
      | (have Hm0 : mayE x = (textB x.name 1 && textB x.other 0) := by simp [mayE, kindB, *]
         have Hm := hid Hm0
         clear Hm0
         refine (trie_text _ x.name 1 (by omega)).mono ?_
         rintro e w' ⟨rfl, rfl⟩
         obtain ⟨b1, hb1⟩ : ∃ b1, b1 = textB x.name 1 := ⟨_, rfl⟩
         rw [← hb1] at Hm ⊢
         clear hb1
         cases b1
         · go_wp2_with fail
           go_ret
           rw [Hm.out]
           exact ⟨rfl, (by show Under _ _; (repeat rw [under_drew]); exact under_alloc (under_alloc (under_refl w) _) _)⟩
         · go_wp2_with fail
           refine (trie_text _ _ 0 (by omega)).mono ?_
           rintro e w' ⟨rfl, rfl⟩
           go_wp2_with fail
           go_ret
           rw [Hm.out]
           first
             | exact ⟨rfl, (by show Under _ _; (repeat rw [under_drew]); exact under_alloc (under_alloc (under_refl w) _) _)⟩
             | (rw [show x.other = [] from by assumption]; exact ⟨rfl, (by show Under _ _; (repeat rw [under_drew]); exact under_alloc (under_alloc (under_refl w) _) _)⟩))
  by_cases k2 : x.kind = 2
  · go_enter Tryz.func17, Tryz.ntmps17
    go_wp2_with fail
    all_goals first
      | (have Hz0 : mayE x = false := by simp [mayE, kindB, *]
         have Hz := hid Hz0
         clear Hz0
         go_ret
         rw [Hz.out]
         exact ⟨rfl, (by show Under _ _; (repeat rw [under_drew]); exact under_alloc (under_alloc (under_refl w) _) _)⟩)
      | (have Hm0 : mayE x = (textB x.name 1 && textB x.other 0) := by simp [mayE, kindB, *]
         have Hm := hid Hm0
         clear Hm0
         refine (trie_text _ x.name 1 (by omega)).mono ?_
         rintro e w' ⟨rfl, rfl⟩
         obtain ⟨b1, hb1⟩ : ∃ b1, b1 = textB x.name 1 := ⟨_, rfl⟩
         rw [← hb1] at Hm ⊢
         clear hb1
         cases b1
         · go_wp2_with fail
           go_ret
           rw [Hm.out]
           exact ⟨rfl, (by show Under _ _; (repeat rw [under_drew]); exact under_alloc (under_alloc (under_refl w) _) _)⟩
         · go_wp2_with fail
           refine (trie_text _ _ 0 (by omega)).mono ?_
           rintro e w' ⟨rfl, rfl⟩
           go_wp2_with fail
           go_ret
           rw [Hm.out]
           first
             | exact ⟨rfl, (by show Under _ _; (repeat rw [under_drew]); exact under_alloc (under_alloc (under_refl w) _) _)⟩
             | (rw [show x.other = [] from by assumption]; exact ⟨rfl, (by show Under _ _; (repeat rw [under_drew]); exact under_alloc (under_alloc (under_refl w) _) _)⟩))
  by_cases k3 : x.kind = 3
  · go_enter Tryz.func17, Tryz.ntmps17
    go_wp2_with fail
    all_goals go_region
    all_goals go_wp2_with fail
    all_goals first
      | (have Hz0 : mayE x = false := by simp [mayE, kindB, *]
         have Hz := hid Hz0
         clear Hz0
         go_ret
         rw [Hz.out]
         exact ⟨rfl, (by show Under _ _; (repeat rw [under_drew]); exact under_alloc (under_alloc (under_refl w) _) _)⟩)
      | (have Hm0 : mayE x = (textB x.name 1 && textB x.other 0) := by simp [mayE, kindB, *]
         have Hm := hid Hm0
         clear Hm0
         refine (trie_text _ x.name 1 (by omega)).mono ?_
         rintro e w' ⟨rfl, rfl⟩
         obtain ⟨b1, hb1⟩ : ∃ b1, b1 = textB x.name 1 := ⟨_, rfl⟩
         rw [← hb1] at Hm ⊢
         clear hb1
         cases b1
         · go_wp2_with fail
           go_ret
           rw [Hm.out]
           exact ⟨rfl, (by show Under _ _; (repeat rw [under_drew]); exact under_alloc (under_alloc (under_refl w) _) _)⟩
         · go_wp2_with fail
           refine (trie_text _ _ 0 (by omega)).mono ?_
           rintro e w' ⟨rfl, rfl⟩
           go_wp2_with fail
           go_ret
           rw [Hm.out]
           first
             | exact ⟨rfl, (by show Under _ _; (repeat rw [under_drew]); exact under_alloc (under_alloc (under_refl w) _) _)⟩
             | (rw [show x.other = [] from by assumption]; exact ⟨rfl, (by show Under _ _; (repeat rw [under_drew]); exact under_alloc (under_alloc (under_refl w) _) _)⟩))
  by_cases k4 : x.kind = 4
  · go_enter Tryz.func17, Tryz.ntmps17
    go_wp2_with fail
    all_goals go_region
    all_goals go_wp2_with fail
    all_goals first
      | (have Hz0 : mayE x = false := by simp [mayE, kindB, *]
         have Hz := hid Hz0
         clear Hz0
         go_ret
         rw [Hz.out]
         exact ⟨rfl, (by show Under _ _; (repeat rw [under_drew]); exact under_alloc (under_alloc (under_refl w) _) _)⟩)
      | (have Hm0 : mayE x = (textB x.name 1 && textB x.other 0) := by simp [mayE, kindB, *]
         have Hm := hid Hm0
         clear Hm0
         refine (trie_text _ x.name 1 (by omega)).mono ?_
         rintro e w' ⟨rfl, rfl⟩
         obtain ⟨b1, hb1⟩ : ∃ b1, b1 = textB x.name 1 := ⟨_, rfl⟩
         rw [← hb1] at Hm ⊢
         clear hb1
         cases b1
         · go_wp2_with fail
           go_ret
           rw [Hm.out]
           exact ⟨rfl, (by show Under _ _; (repeat rw [under_drew]); exact under_alloc (under_alloc (under_refl w) _) _)⟩
         · go_wp2_with fail
           refine (trie_text _ _ 0 (by omega)).mono ?_
           rintro e w' ⟨rfl, rfl⟩
           go_wp2_with fail
           go_ret
           rw [Hm.out]
           first
             | exact ⟨rfl, (by show Under _ _; (repeat rw [under_drew]); exact under_alloc (under_alloc (under_refl w) _) _)⟩
             | (rw [show x.other = [] from by assumption]; exact ⟨rfl, (by show Under _ _; (repeat rw [under_drew]); exact under_alloc (under_alloc (under_refl w) _) _)⟩))
  have Hz0 : mayE x = false := by simp [mayE, kindB, *]
  have Hz := hid Hz0
  clear Hz0
  go_enter Tryz.func17, Tryz.ntmps17
  go_wp2_with fail
  go_ret
  rw [Hz.out]
  exact ⟨rfl, (by show Under _ _; (repeat rw [under_drew]); exact under_alloc (under_alloc (under_refl w) _) _)⟩

end Go.Proofs.YtipgcdpmkpjokaaGreatDoor
