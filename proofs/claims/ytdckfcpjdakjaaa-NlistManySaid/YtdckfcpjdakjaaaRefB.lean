/- The walks of layer 10's reference: what an entry tells. -/
import Derived.Test.YtdckfcpjdakjaaaRefA
import Derived.Test.YtdckfcpjdakjaaaNlC
namespace Go.Proofs.Ytdckfcpjdakjaaa
set_option linter.unusedSimpArgs false
set_option linter.unusedVariables false
open Go.RowKit Go.Maps

set_option maxHeartbeats 400000 in
theorem ref_get (w : World) (p : Option Addr) (n cap : Nat) (l : List UInt8) (k sz : Nat) (at_ m : Int) (hat : at_ = k) (hm : m = sz) (hs : m = 1 ∨ m = 2 ∨ m = 4 ∨ m = 8) (h : BS w (.slice p n cap) l) (hn : k + sz ≤ n) :
    Calls Try.prog 33 #[.slice p n cap, .int .i64 at_, .int .i64 m] w fun e w' => e = .returned (.int .u64 (leNat ((l.drop k).take sz))) ∧ Below w.heap.size w w' := by
  have hl := h.len
  have hcp := h.cap
  subst hl hat hm
  have hsub := sub_bs h (lo := k) (hi := k + sz) (m := cap) (by omega) hn (by omega) (Nat.le_refl _)
  rw [Nat.add_sub_cancel_left] at hsub
  have hsl := fun (w : World) => run_sub2 (P := Try.prog) (w := w) (t := 23) p l.length cap un_bs (sz_u8 w) .i64 .i64 k (k + sz) (by omega) (by omega) (by omega)
  have e2 : ((k : Int) + (sz : Int)).toNat = k + sz := by omega
  simp only [Int.toNat_natCast, e2, Nat.add_sub_cancel_left] at hsl
  have hcur : RCurAt (w.alloc (.cells #[.slice (subA p k cap) sz (cap - k), .int .i64 0, .bool false, .bool false] 77)) w.heap.size ((l.drop k).take sz) 0 false false := by
    refine ⟨_, hsub.below ((Below.refl _ _).alloc (Nat.le_refl _) _), fun hk => ?_, Nat.zero_le _, heap_alloc_new _ _⟩
    obtain ⟨b, off, e, hc⟩ := hsub.at (inBlk_pos hk)
    have hpos : 0 < ((l.drop k).take sz).length := by rw [hsub.len]; exact inBlk_pos hk
    have h0 := World.block_lt_of_cell? w _ (hc 0 _ (List.getElem?_eq_getElem hpos))
    rw [e] at hk
    have e3 : b = w.heap.size := hk.2
    simp at h0; omega
  have H := hid (And.intro hcur (And.intro hs (hsub.len)))
  clear hcur hs hsub h e2
  go_enter Try.func33, Try.ntmps33
  go_wp2_with fail
  refine (ref_number_ok _ _ _ 0 sz _ H.out.2.1 rfl H.out.1 (by rw [H.out.2.2]; omega)).mono ?_
  rintro e w1 ⟨rfl, hc1, hg1⟩
  have H1 := hid hg1
  clear hc1 hg1
  go_wp2
  go_ret
  refine ⟨?_, Below.grownBy ((Below.refl _ _).alloc (Nat.le_refl _) _) H1.out (Nat.le_refl _) (by simp)⟩
  simp [List.take_of_length_le, H.out.2.2]

theorem told_ref : ∀ k : Fin 256, (((k.val : Int) % 2 == 1) && ((k.val : Int) / 16 == 0) && (((k.val : Int) / 2 == 7) || ((k.val : Int) / 2 == 1))) = decide (k.val = 15 ∨ k.val = 3) := by decide +kernel

set_option maxHeartbeats 400000 in
theorem ref_told (w : World) (k : Nat) (hk : k < 256) :
    Calls Try.prog 22 #[.int .i64 k] w fun e w' => e = .returned (.bool (decide (k = 15 ∨ k = 3))) ∧ w = w' := by
  have ht := told_ref ⟨k, hk⟩
  simp only at ht
  rw [← ht]
  clear ht
  by_cases h1 : ((k : Int) % 2 == 1) = true
  · by_cases h2 : ((k : Int) / 16 == 0) = true
    · by_cases h3 : ((k : Int) / 2 == 7) = true
      · go_enter Try.func22, Try.ntmps22
        go_wp2
        go_ret
        exact ⟨by rw [h1, h2, h3]; rfl, rfl⟩
      · have h3 : ((k : Int) / 2 == 7) = false := by simpa using h3
        go_enter Try.func22, Try.ntmps22
        go_wp2
        go_ret
        exact ⟨by rw [h1, h2, h3]; rfl, rfl⟩
    · have h2 : ((k : Int) / 16 == 0) = false := by simpa using h2
      go_enter Try.func22, Try.ntmps22
      go_wp2
      go_ret
      exact ⟨by rw [h1, h2]; rfl, rfl⟩
  · have h1 : ((k : Int) % 2 == 1) = false := by simpa using h1
    go_enter Try.func22, Try.ntmps22
    go_wp2
    go_ret
    exact ⟨by rw [h1]; rfl, rfl⟩

set_option maxHeartbeats 400000 in
theorem ref_name (w : World) (p : Option Addr) (n cap : Nat) (l : List UInt8) (h : BS w (.slice p n cap) l) :
    Calls Try.prog 27 #[.slice p n cap] w fun e w' => e = .returned (.string (mkS (l.take (nul l)))) ∧ w = w' := by
  have hl := h.len
  have hcp := h.cap
  subst hl
  have hnl := nul_le l
  have hcv := run_toString (P := Try.prog) p (nul l) cap un_bs8 un_u8 un_str (pre_bs h (hi := nul l) (m := cap) hnl (by omega) (Nat.le_refl _))
  have hsl := fun (w : World) => run_subh (P := Try.prog) (w := w) (t := 23) p l.length cap un_bs (sz_u8 w) .i64 (nul l) (by omega) (by omega)
  simp only [Int.toNat_natCast] at hsl
  have H := hid (And.intro h hcv)
  clear h hcv
  go_enter Try.func27, Try.ntmps27
  go_wp2_with fail
  go_loop [3] (fun i => ∃ j : Nat, j ≤ nul l ∧ i = .int .i64 j) (fun i => l.length - (intOf i).toNat)
  case atStart => exact ⟨0, Nat.zero_le _, rfl⟩
  case round =>
    obtain ⟨j, hj, rfl⟩ := hrel
    by_cases hlt : j < nul l
    · obtain ⟨x, hx, hx0⟩ := nul_lt hlt
      have hjl : j < l.length := by omega
      obtain ⟨b, off, rfl, hcell⟩ := H.out.1.at (by omega)
      have hcl := hcell j x hx
      have hne : ((x.toNat : Int) != 0) = true := by
        rw [bne_iff_ne]; intro e
        exact hx0 (UInt8.toNat_inj.1 (by simp; omega))
      clear hx hx0 hcell
      go_wp2
      go_round
      case rel => exact ⟨j + 1, by omega, by go_num⟩
      case measure => simp [intOf]; omega
    · obtain rfl : j = nul l := by omega
      have hcv := H.out.2
      by_cases hend : nul l < l.length
      · have hx := nul_at hend
        obtain ⟨b, off, rfl, hcell⟩ := H.out.1.at (by omega)
        have hcl := hcell _ _ hx
        have hcl : w.cell? ⟨b, off + nul l, none⟩ = some (.int .u8 0) := hcl
        clear hx hcell
        go_wp2
        go_ret
        exact ⟨rfl, rfl⟩
      · go_wp2
        go_ret
        exact ⟨rfl, rfl⟩

end Go.Proofs.Ytdckfcpjdakjaaa
