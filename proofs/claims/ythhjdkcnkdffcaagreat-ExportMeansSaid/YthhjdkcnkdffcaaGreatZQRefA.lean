/- The walks of the reference's cursor, and of what layer 10's reference reads by it. -/
import Derived.Test.YthhjdkcnkdffcaaGreatZQCur
import Derived.Test.YthhjdkcnkdffcaaGreatZPlain
import Derived.StillTailTactics
namespace Go.Proofs.YthhjdkcnkdffcaaGreat.Nl
set_option linter.unusedSimpArgs false
set_option linter.unusedVariables false
open Go.RowKit

/-- A cursor of the reference over the bytes l stands in the block c. -/
def RCurAt (w : World) (c : Nat) (l : List UInt8) (at_ : Nat) (big bad : Bool) : Prop :=
  ∃ v, BS w v l ∧ ¬ inBlk v c ∧ at_ ≤ l.length ∧ w.heap[c]? = some (.cells #[v, .int .i64 at_, .bool big, .bool bad] 139 (0, 0))

theorem RCurAt.bad {w : World} {c : Nat} {l : List UInt8} {k : Nat} {big f : Bool} (h : RCurAt w c l k big f) (f' : Bool) : RCurAt (w.setCell ⟨c, 3, none⟩ (.bool f')) c l k big f' := by
  obtain ⟨v, hv, hb, hk, hc⟩ := h
  exact ⟨v, hv.grown (grownBy_setCell _ _ _ _) hb, hb, hk, by rw [heap_setCell_same _ _ _ _ _ _ hc]; rfl⟩

theorem RCurAt.moved {w : World} {c : Nat} {l : List UInt8} {k : Nat} {big f : Bool} (h : RCurAt w c l k big f) (k' : Nat) (hk' : k' ≤ l.length) : RCurAt (w.setCell ⟨c, 1, none⟩ (.int .i64 k')) c l k' big f := by
  obtain ⟨v, hv, hb, hk, hc⟩ := h
  exact ⟨v, hv.grown (grownBy_setCell _ _ _ _) hb, hb, hk', by rw [heap_setCell_same _ _ _ _ _ _ hc]; rfl⟩

theorem RCurAt.heap {w w' : World} {c : Nat} {l : List UInt8} {k : Nat} {big f : Bool} (h : RCurAt w c l k big f) (hh : w'.heap = w.heap) : RCurAt w' c l k big f := by
  obtain ⟨v, hv, hb, hk, hc⟩ := h
  exact ⟨v, hv.heap hh, hb, hk, by rw [hh]; exact hc⟩

set_option maxHeartbeats 400000 in
set_option maxRecDepth 8000 in
theorem ref_need (c : Nat) (w : World) (l : List UInt8) (k : Nat) (big f is : Bool) (h : RCurAt w c l k big f) :
    Calls Tryz.prog 79 #[.pointer (some ⟨c, 0, none⟩), .bool is] w fun e w' => e = .returned (.bool (f || !is)) ∧ w' = w.setCell ⟨c, 3, none⟩ (.bool (f || !is)) := by
  obtain ⟨v, hv, hb, hk, hc⟩ := h
  obtain ⟨⟨h0, h1, h2, h3⟩, hf⟩ := cur_cells hc
  have hf3 := hf 3
  clear hv hb hk hc hf h0 h1 h2
  cases f
  · cases is
    all_goals
      go_enter Tryz.func79, Tryz.ntmps79
      go_wp2
      go_ret
      exact ⟨rfl, rfl⟩
  · cases is
    all_goals
      go_enter Tryz.func79, Tryz.ntmps79
      go_wp2
      go_ret
      exact ⟨rfl, rfl⟩

set_option maxHeartbeats 400000 in
set_option maxRecDepth 8000 in
theorem ref_bytes_ok (c : Nat) (w : World) (l : List UInt8) (k n : Nat) (m : Int) (hm : m = n) (big : Bool) (h : RCurAt w c l k big false) (hn : k + n ≤ l.length) :
    Calls Tryz.prog 80 #[.pointer (some ⟨c, 0, none⟩), .int .i64 m] w fun e w' =>
      ∃ p' c', e = .returned (.slice p' n c') ∧ BS w' (.slice p' n c') ((l.drop k).take n) ∧ ¬ inBlk (.slice p' n c') c ∧ RCurAt w' c l (k + n) big false ∧ w.grownBy w' (some c) := by
  subst hm
  have hnd := ref_need c
  have hb1 := h.bad false
  have hmv := hb1.moved (k + n) hn
  have hg := grownBy_trans (grownBy_setCell w c 3 (.bool false)) (grownBy_setCell (w.setCell ⟨c, 3, none⟩ (.bool false)) c 1 (.int .i64 ((k + n : Nat) : Int)))
  have H0 := hid (And.intro h hnd)
  obtain ⟨v, hv, hb, hk, hc⟩ := hb1
  obtain ⟨v2, hv2, hb2, hk2, hc2⟩ := id hmv
  obtain ⟨v0, hv0, hb0, hk0, hc0⟩ := h
  obtain ⟨⟨r0, r1, r2, r3⟩, -⟩ := cur_cells hc0
  have e1 : v = v2 := by
    have := heap_setCell_same _ _ 1 _ _ (.int .i64 ((k + n : Nat) : Int)) hc
    rw [this] at hc2
    simp at hc2; exact hc2
  subst e1
  have e0 : v = v0 := by
    have := heap_setCell_same _ _ 3 _ _ (.bool false) hc0
    rw [this] at hc
    simp at hc; exact hc.symm
  subst e0
  obtain ⟨p, cap, rfl⟩ := hv2.form rfl
  have hcp := hv2.cap
  obtain ⟨⟨h0, h1, h2, h3⟩, hf⟩ := cur_cells hc
  have hf1 := hf 1
  have hsub := sub_bs hv2 (lo := k) (hi := k + n) (m := cap) (by omega) hn (by omega) (Nat.le_refl _)
  have hblk : ¬ inBlk (.slice (subA p k cap) (k + n - k) (cap - k)) c := fun hh => hb (cut_blk hh (by have := inBlk_pos hh; omega))
  have hsl := fun (w : World) => run_sub2 (P := Tryz.prog) (w := w) (t := 27) p l.length cap un_bs (sz_u8 w) .i64 .i64 k (k + n) (by omega) (by omega) (by omega)
  simp only [show ((k : Int) + (n : Int)).toNat = k + n from by omega, Int.toNat_natCast] at hsl
  have hw1 : IntKind.i64.wrap ((k : Int) + n) = (k : Int) + n := IntWalk.i64_in _ (by omega)
  have hw2 : IntKind.i64.wrap ((l.length : Int) - k) = (l.length : Int) - k := IntWalk.i64_in _ (by omega)
  have hle : decide ((n : Int) ≤ (l.length : Int) - k) = true := by simp; omega
  have H := hid (And.intro hmv (And.intro hsub (And.intro hblk hg)))
  clear hmv hsub hblk hg hv hv2 hc hb hf hc2 hb2 hk2 hv0 hb0 hk0 hc0 hnd
  go_enter Tryz.func80, Tryz.ntmps80
  go_wp2
  go_still_tail 17, (by kernel_rfl)
  change wpList _ _ _ _ _ w.drew
  go_wp2_with (go_at_call 79; refine (H0.out.2 _ l k big false true (by exact H0.out.1.heap rfl)).mono ?_; rintro e w' ⟨rfl, rfl⟩)
  go_quiet (fail)
  go_wp2
  go_ret
  obtain ⟨hmv, hsub, hblk, hg⟩ := H.out
  rw [Nat.add_sub_cancel_left] at hsub hblk
  rw [Int.natCast_add] at hmv hsub hg
  exact ⟨_, _, rfl, hsub.heap rfl, hblk, hmv.heap rfl, grownBy_heap hg rfl rfl rfl rfl⟩

set_option maxHeartbeats 1000000 in
set_option maxRecDepth 8000 in
theorem ref_number_ok (c : Nat) (w : World) (l : List UInt8) (k n : Nat) (m : Int) (hs : m = 1 ∨ m = 2 ∨ m = 4 ∨ m = 8) (hm : m = n) (h : RCurAt w c l k false false) (hn : k + n ≤ l.length) :
    Calls Tryz.prog 66 #[.pointer (some ⟨c, 0, none⟩), .int .i64 m] w fun e w' =>
      e = .returned (.int .u64 (leNat ((l.drop k).take n))) ∧ RCurAt w' c l (k + n) false false ∧ w.grownBy w' (some c) := by
  have hn1 : 1 ≤ n := by omega
  have hn8 : n ≤ 8 := by omega
  have hb := h.bad false
  have hg := grownBy_setCell w c 3 (.bool false)
  have H := hid (And.intro h (And.intro hn (And.intro hb hg)))
  have Hm := hid hm
  clear h hn hm hb hg
  rcases hs with rfl | rfl | rfl | rfl
  all_goals
    go_enter Tryz.func66, Tryz.ntmps66
    go_wp2_with fail
    refine (ref_need c _ l k false false true (by exact H.out.1)).mono ?_
    rintro e w' ⟨rfl, rfl⟩
    go_wp2_with fail
    refine (ref_bytes_ok c _ l k n _ Hm.out false (by exact H.out.2.2.1) H.out.2.1).mono ?_
    rintro e w1 ⟨p1, cap1, rfl, hb1, hnb, hc1, hg1⟩
    obtain ⟨L, hL⟩ : ∃ L, L = (l.drop k).take n := ⟨_, rfl⟩
    rw [← hL] at hb1
    have hLn := hb1.len
    obtain ⟨b, off, rfl, hcell⟩ := hb1.at (by omega)
    obtain ⟨v', hv', hnb', hk', hcc⟩ := id hc1
    obtain ⟨⟨-, -, q2, -⟩, -⟩ := cur_cells hcc
    have H1 := hid (And.intro hL (And.intro hLn (And.intro hc1 (And.intro hg1 hcell))))
    clear hL hLn hc1 hg1 hcell hb1 hcc hv' hnb' hnb hk'
    go_wp2_with fail
    go_loop [6, 7] (fun a i => ∃ j : Nat, j ≤ n ∧ i = .int .i64 j ∧ a = .int .u64 (leNat (L.drop (n - j)))) (fun _ i => n - (intOf i).toNat)
    case atStart => exact ⟨0, Nat.zero_le _, rfl, by rw [List.drop_of_length_le (by rw [H1.out.2.1]; omega)]; rfl⟩
    case round =>
      obtain ⟨j, hj, rfl, rfl⟩ := hrel
      by_cases hlt : j < n
      · obtain ⟨x, hx⟩ : ∃ x, L[n - 1 - j]? = some x := ⟨L[n - 1 - j]'(by rw [H1.out.2.1]; omega), List.getElem?_eq_getElem _⟩
        have hcl := H1.out.2.2.2.2 _ x hx
        have hxb : (x.toNat : Int) ≤ 255 := by have := x.toNat_lt; omega
        have hacc : (leNat (L.drop (n - j)) : Int) ≤ 72057594037927935 := by
          have h1 := leNat_lt (L.drop (n - j))
          have h2 : (L.drop (n - j)).length ≤ 7 := by rw [List.length_drop, H1.out.2.1]; omega
          have h3 : 256 ^ (L.drop (n - j)).length ≤ 256 ^ 7 := Nat.pow_le_pow_right (by omega) h2
          omega
        have hix : (n : Int) - 1 - j = ((n - 1 - j : Nat) : Int) := by omega
        have Hx := hid hx
        clear hx
        go_wp2
        refine ⟨⟨j + 1, by omega, by go_num, ?_⟩, by simp [intOf]; omega⟩
        rw [show n - (j + 1) = n - 1 - j by omega, leNat_drop Hx.out, show n - 1 - j + 1 = n - j by omega]
        congr 1
        omega
      · go_wp2
        go_ret
        obtain ⟨hL, hLn, hc1, hg1, hcell⟩ := H1.out
        obtain rfl : j = n := by omega
        refine ⟨?_, hc1, grownBy_trans H.out.2.2.2 hg1⟩
        show Ending.returned (Value.int IntKind.u64 ↑(leNat (List.drop (j - j) L))) = _
        rw [← hL, Nat.sub_self]
        rfl

end Go.Proofs.YthhjdkcnkdffcaaGreat.Nl

namespace Go.Proofs.YthhjdkcnkdffcaaGreat.Nl
set_option linter.unusedSimpArgs false
set_option linter.unusedVariables false
open Go.RowKit Go.Maps

set_option maxHeartbeats 400000 in
set_option maxRecDepth 8000 in
theorem ref_get (w : World) (p : Option Addr) (n cap : Nat) (l : List UInt8) (k sz : Nat) (at_ m : Int) (hat : at_ = k) (hm : m = sz) (hs : m = 1 ∨ m = 2 ∨ m = 4 ∨ m = 8) (h : BS w (.slice p n cap) l) (hn : k + sz ≤ n) :
    Calls Tryz.prog 81 #[.slice p n cap, .int .i64 at_, .int .i64 m] w fun e w' => e = .returned (.int .u64 (leNat ((l.drop k).take sz))) ∧ Below w.heap.size w w' := by
  have hl := h.len
  have hcp := h.cap
  subst hl hat hm
  have hsub := sub_bs h (lo := k) (hi := k + sz) (m := cap) (by omega) hn (by omega) (Nat.le_refl _)
  rw [Nat.add_sub_cancel_left] at hsub
  have hsl := fun (w : World) => run_sub2 (P := Tryz.prog) (w := w) (t := 27) p l.length cap un_bs (sz_u8 w) .i64 .i64 k (k + sz) (by omega) (by omega) (by omega)
  have e2 : ((k : Int) + (sz : Int)).toNat = k + sz := by omega
  simp only [Int.toNat_natCast, e2, Nat.add_sub_cancel_left] at hsl
  have hcur : RCurAt (w.alloc (.cells #[.slice (subA p k cap) sz (cap - k), .int .i64 0, .bool false, .bool false] 139)) w.heap.size ((l.drop k).take sz) 0 false false := by
    refine ⟨_, hsub.below ((Below.refl _ _).alloc (Nat.le_refl _) _), fun hk => ?_, Nat.zero_le _, heap_alloc_new _ _⟩
    obtain ⟨b, off, e, hc⟩ := hsub.at (inBlk_pos hk)
    have hpos : 0 < ((l.drop k).take sz).length := by rw [hsub.len]; exact inBlk_pos hk
    have h0 := World.block_lt_of_cell? w _ (hc 0 _ (List.getElem?_eq_getElem hpos))
    rw [e] at hk
    have e3 : b = w.heap.size := hk.2
    simp at h0; omega
  have H := hid (And.intro hcur (And.intro hs (hsub.len)))
  clear hcur hs hsub h e2
  go_enter Tryz.func81, Tryz.ntmps81
  go_wp2_with fail
  refine (ref_number_ok _ _ _ 0 sz _ H.out.2.1 rfl H.out.1 (by rw [H.out.2.2]; omega)).mono ?_
  rintro e w1 ⟨rfl, hc1, hg1⟩
  have H1 := hid hg1
  clear hc1 hg1
  go_wp2
  go_ret
  refine ⟨?_, Below.grownBy ((Below.refl _ _).alloc (Nat.le_refl _) _) H1.out (Nat.le_refl _) (by simp)⟩
  simp [List.take_of_length_le, H.out.2.2]

theorem told_ref : ∀ k : Fin 256, (((k.val : Int) % 2 == 1) && ((k.val : Int) / 16 == 0) && (((k.val : Int) / 2 == 7) || ((k.val : Int) / 2 == 1))) = decide (k.val = 15 ∨ k.val = 3) := by decide +kernel

set_option maxHeartbeats 400000 in
set_option maxRecDepth 8000 in
theorem ref_told (w : World) (k : Nat) (hk : k < 256) :
    Calls Tryz.prog 68 #[.int .i64 k] w fun e w' => e = .returned (.bool (decide (k = 15 ∨ k = 3))) ∧ w = w' := by
  have ht := told_ref ⟨k, hk⟩
  simp only at ht
  rw [← ht]
  clear ht
  by_cases h1 : ((k : Int) % 2 == 1) = true
  · by_cases h2 : ((k : Int) / 16 == 0) = true
    · by_cases h3 : ((k : Int) / 2 == 7) = true
      · go_enter Tryz.func68, Tryz.ntmps68
        go_wp2
        go_ret
        exact ⟨by rw [h1, h2, h3]; rfl, rfl⟩
      · have h3 : ((k : Int) / 2 == 7) = false := by simpa using h3
        go_enter Tryz.func68, Tryz.ntmps68
        go_wp2
        go_ret
        exact ⟨by rw [h1, h2, h3]; rfl, rfl⟩
    · have h2 : ((k : Int) / 16 == 0) = false := by simpa using h2
      go_enter Tryz.func68, Tryz.ntmps68
      go_wp2
      go_ret
      exact ⟨by rw [h1, h2]; rfl, rfl⟩
  · have h1 : ((k : Int) % 2 == 1) = false := by simpa using h1
    go_enter Tryz.func68, Tryz.ntmps68
    go_wp2
    go_ret
    exact ⟨by rw [h1]; rfl, rfl⟩

set_option maxHeartbeats 400000 in
set_option maxRecDepth 8000 in
theorem ref_name (w : World) (p : Option Addr) (n cap : Nat) (l : List UInt8) (h : BS w (.slice p n cap) l) :
    Calls Tryz.prog 54 #[.slice p n cap] w fun e w' => e = .returned (.string (mkS (l.take (nul l)))) ∧ w = w' := by
  have hl := h.len
  have hcp := h.cap
  subst hl
  have hnl := nul_le l
  have hcv := run_toString (P := Tryz.prog) p (nul l) cap un_bs8 un_u8 un_str (pre_bs h (hi := nul l) (m := cap) hnl (by omega) (Nat.le_refl _))
  have hsl := fun (w : World) => run_subh (P := Tryz.prog) (w := w) (t := 27) p l.length cap un_bs (sz_u8 w) .i64 (nul l) (by omega) (by omega)
  simp only [Int.toNat_natCast] at hsl
  have H := hid (And.intro h hcv)
  clear h hcv
  go_enter Tryz.func54, Tryz.ntmps54
  go_wp2_with fail
  go_loop [3] (fun i => ∃ j : Nat, j ≤ nul l ∧ i = .int .i64 j) (fun i => l.length - (intOf i).toNat)
  case atStart => exact ⟨0, Nat.zero_le _, rfl⟩
  case round =>
    obtain ⟨j, hj, rfl⟩ := hrel
    by_cases hlt : j < nul l
    · obtain ⟨x, hx, hx0⟩ := nul_lt hlt
      have hjl : j < l.length := by omega
      obtain ⟨b, off, rfl, hcell⟩ := H.out.1.at (by omega)
      have hcl := hcell j x hx
      have hne : ((x.toNat : Int) != 0) = true := by
        rw [bne_iff_ne]; intro e
        exact hx0 (UInt8.toNat_inj.1 (by simp; omega))
      clear hx hx0 hcell
      go_wp2
      go_round
      case rel => exact ⟨j + 1, by omega, by go_num⟩
      case measure => simp [intOf]; omega
    · obtain rfl : j = nul l := by omega
      have hcv := H.out.2
      by_cases hend : nul l < l.length
      · have hx := nul_at hend
        obtain ⟨b, off, rfl, hcell⟩ := H.out.1.at (by omega)
        have hcl := hcell _ _ hx
        have hcl : w.cell? ⟨b, off + nul l, none⟩ = some (.int .u8 0) := hcl
        clear hx hcell
        go_wp2
        go_ret
        exact ⟨rfl, rfl⟩
      · go_wp2
        go_ret
        exact ⟨rfl, rfl⟩

end Go.Proofs.YthhjdkcnkdffcaaGreat.Nl
