/- Package cursor: texts. -/
import Derived.Test.YtipgcdpmkpjokaaDoorCurC
import Derived.BigQuiet
namespace Go.Proofs.YtipgcdpmkpjokaaDoor
set_option linter.unusedSimpArgs false
set_option linter.unusedVariables false
open Go.RowKit

theorem un_bs8 : Tryd.prog.underlying 30 = some (.slice 5) := by kernel_rfl
theorem un_u8 : Tryd.prog.underlying 5 = some (.int .u8) := by kernel_rfl
theorem un_str : Tryd.prog.underlying 9 = some .string := by kernel_rfl

theorem idx_any (w : World) (a : Addr) (n cap : Nat) (l : List UInt8) (h : BS w (.slice (some a) n cap) l) :
    Calls Tryd.prog 60 #[.slice (some a) n cap, .int .u8 0] w fun e w' => e = .returned (.int .i64 (Lib.indexByte l 0)) ∧ w' = w := by
  have hl := h.len
  refine (Tryd.bytes_IndexByte_at a n cap (nums l) 0 w (by rw [nums_length, hl]) h.cellsAt).mono ?_
  rintro e w' ⟨rfl, rfl⟩
  refine ⟨?_, rfl⟩
  have : Lib.bytesOf (nums l) = l := by rw [← nums_back l]; simp [Lib.bytesOf, nums_back]
  rw [this]
  rfl

theorem subA_some {p : Option Addr} {lo m : Nat} {a : Addr} (h : p = some a) : ∃ a', subA p lo m = some a' := by
  subst h; unfold subA; split
  · exact ⟨a, rfl⟩
  · exact ⟨_, rfl⟩

set_option maxHeartbeats 1000000 in
theorem cur_text_bad (c : Nat) (w : World) (l : List UInt8) (k : Nat) (m : Int) (h : CurAt w c l k false true) :
    Calls Tryd.prog 44 #[.pointer (some ⟨c, 0, none⟩), .int .i64 m] w fun e w' => e = .returned (.string (mkS [])) ∧ w' = w := by
  obtain ⟨v, hv, hb, hk, hc⟩ := h
  obtain ⟨⟨h0, h1, h2, h3⟩, hf⟩ := cur_cells hc
  go_enter Tryd.func44, Tryd.ntmps44
  go_wp2_with fail
  refine (cur_well_t c _ true (by exact h3)).mono ?_
  rintro e w' ⟨rfl, rfl⟩
  go_wp2
  go_ret
  exact ⟨rfl, rfl⟩

theorem idxNat (L : List UInt8) (h : nul L < L.length) : Lib.indexByte L 0 = (nul L : Int) := by rw [indexByte_nul, if_pos h]
theorem idxNeg (L : List UInt8) (h : ¬ nul L < L.length) : Lib.indexByte L 0 = -1 := by rw [indexByte_nul, if_neg h]

set_option maxHeartbeats 1000000 in
theorem cur_text_ok (c : Nat) (w : World) (l : List UInt8) (k : Nat) (h : CurAt w c l k false false) (hne : l ≠ []) :
    Calls Tryd.prog 44 #[.pointer (some ⟨c, 0, none⟩), .int .i64 255] w fun e w' =>
      e = .returned (.string (mkS (textC l 255 ⟨k, false⟩).1)) ∧ CuAt w' c l (textC l 255 ⟨k, false⟩).2 ∧ w.grownBy w' (some c) := by
  have h' := h
  have hfl := h.failed
  obtain ⟨v, hv, hb, hk, hc⟩ := h
  obtain ⟨p, cap, rfl, g1, g2, g3⟩ := id hv
  obtain ⟨⟨h0, h1, h2, h3⟩, hf⟩ := cur_cells hc
  have hf3 := hf 3
  obtain ⟨b, off, rfl, -⟩ := g3 hne
  have hdb := drop_bs hv (lo := k) hk
  obtain ⟨a', ha'⟩ := subA_some (p := some ⟨b, off, none⟩) (lo := k) (m := cap) rfl
  have hsl := fun (w : World) => run_subl (P := Tryd.prog) (w := w) (t := 30) (some ⟨b, off, none⟩) l.length cap un_bs (sz_u8 w) .i64 (k : Int) (by omega) (by omega)
  rw [ha'] at hdb
  simp only [Int.toNat_natCast, ha'] at hsl
  have hlen : (l.drop k).length = l.length - k := List.length_drop
  have hnl := nul_le (l.drop k)
  obtain ⟨N, hN⟩ : ∃ N, N = nul (l.drop k) := ⟨_, rfl⟩
  obtain ⟨X, hX⟩ : ∃ X, X = Lib.indexByte (l.drop k) 0 := ⟨_, rfl⟩
  have hix := fun (W : World) (hh : W.heap = w.heap) => idx_any W a' _ _ _ (hdb.heap hh)
  rw [← hX] at hix
  have HN := hid hN
  have H := hid (And.intro h' (And.intro hfl (And.intro hdb (grownBy_setCell w c 3 (.bool true)))))
  have Hix := hid hix
  clear hix h' hfl hdb hv hb hc hf g3
  rw [← hN] at hnl
  by_cases hlt : N < (l.drop k).length ∧ N ≤ 255
  · have hXN : X = (N : Int) := by rw [hX, idxNat _ (by rw [← hN]; exact hlt.1), hN]
    have e : textC l 255 ⟨k, false⟩ = ((l.drop k).take N, ⟨k + N + 1, false⟩) := by
      unfold textC
      rw [if_neg (by simp), ← hN, if_pos hlt]
    have He := hid e
    subst hXN
    have hd1 : decide ((0 : Int) ≤ (N : Int)) = true := by simp
    have hd2 : decide ((N : Int) ≤ 255) = true := by simp; omega
    have hw1 : IntKind.i64.wrap ((N : Int) + 1) = (N : Int) + 1 := IntWalk.i64_in _ (by omega)
    have hlt1 := hlt.1
    rw [hlen] at hlt1
    clear hX e hN hlt hlen
    go_enter Tryd.func44, Tryd.ntmps44
    go_wp2_with fail
    refine (cur_well_t c _ false (by exact h3)).mono ?_
    rintro e w' ⟨rfl, rfl⟩
    go_wp2_with fail
    go_quiet (first | (go_at_call 60; refine Calls.quiet_of_same (Hix.out _ (by rfl))))
    go_wp2_with fail
    refine (cur_well_t c _ false (by exact h3)).mono ?_
    rintro e w' ⟨rfl, rfl⟩
    go_wp2_with fail
    refine (cur_take_ok c (w.drewN nq) l k (N + 1) ((N : Int) + 1) (by omega) false (H.out.1.heap (w' := w.drewN nq) rfl) (by omega)).mono ?_
    rintro e w1 ⟨p', c', rfl, hb1, -, hc1, hg1⟩
    have hpre := pre_bs hb1 (hi := N) (m := c') (by omega) (by have := hb1.cap; omega) (Nat.le_refl _)
    rw [List.take_take, Nat.min_eq_left (by omega)] at hpre
    have hcap := hb1.cap
    have hsh := fun (w : World) => run_subh (P := Tryd.prog) (w := w) (t := 30) p' (N + 1) c' un_bs (sz_u8 w) .i64 (N : Int) (by omega) (by omega)
    have hts := run_toString (P := Tryd.prog) (dst := 9) _ _ _ un_bs8 un_u8 un_str hpre
    simp only [Int.toNat_natCast] at hsh
    have H1 := hid (And.intro hc1 hg1)
    clear hb1 hc1 hg1 hpre
    go_wp2_with fail
    go_ret
    obtain ⟨hc1, hg1⟩ := H1.out
    rw [He.out]
    exact ⟨rfl, by rw [Nat.add_assoc]; exact hc1, ⟨hg1.os, hg1.tape, hg1.output, hg1.size, hg1.block⟩⟩
  · have hcase : (X = -1) ∨ (X = (N : Int) ∧ 255 < N) := by
      by_cases h1 : N < (l.drop k).length
      · right; exact ⟨by rw [hX, idxNat _ (by rw [← hN]; exact h1), hN], by omega⟩
      · left; rw [hX, idxNeg _ (by rw [← hN]; exact h1)]
    have e : textC l 255 ⟨k, false⟩ = ([], ⟨k, true⟩) := by
      unfold textC
      rw [if_neg (by simp), ← hN, if_neg hlt]
    have He := hid e
    clear hX e hN hlt hlen
    rcases hcase with rfl | ⟨rfl, hbig⟩
    · go_enter Tryd.func44, Tryd.ntmps44
      go_wp2_with fail
      refine (cur_well_t c _ false (by exact h3)).mono ?_
      rintro e w' ⟨rfl, rfl⟩
      go_wp2_with fail
      go_quiet (first | (go_at_call 60; refine Calls.quiet_of_same (Hix.out _ (by rfl))))
      go_wp2_with fail
      refine (cur_well_f c _ (by exact hf3) _ (by exact h3)).mono ?_
      rintro e w' ⟨rfl, rfl⟩
      go_wp2
      go_ret
      rw [He.out]
      exact ⟨rfl, H.out.2.1.heap rfl, grownBy_heap H.out.2.2.2 rfl rfl rfl rfl⟩
    · have hd1 : decide ((0 : Int) ≤ (N : Int)) = true := by simp
      have hd2 : decide ((N : Int) ≤ 255) = false := by simp; omega
      go_enter Tryd.func44, Tryd.ntmps44
      go_wp2_with fail
      refine (cur_well_t c _ false (by exact h3)).mono ?_
      rintro e w' ⟨rfl, rfl⟩
      go_wp2_with fail
      go_quiet (first | (go_at_call 60; refine Calls.quiet_of_same (Hix.out _ (by rfl))))
      go_wp2_with fail
      refine (cur_well_f c _ (by exact hf3) _ (by exact h3)).mono ?_
      rintro e w' ⟨rfl, rfl⟩
      go_wp2
      go_ret
      rw [He.out]
      exact ⟨rfl, H.out.2.1.heap rfl, grownBy_heap H.out.2.2.2 rfl rfl rfl rfl⟩

theorem cur_text (c : Nat) (w : World) (l : List UInt8) (s : Cu) (h : CuAt w c l s) (hne : l ≠ []) :
    Calls Tryd.prog 44 #[.pointer (some ⟨c, 0, none⟩), .int .i64 255] w fun e w' =>
      ∃ t s', textC l 255 s = (t, s') ∧ e = .returned (.string (mkS t)) ∧ CuAt w' c l s' ∧ w.grownBy w' (some c) := by
  obtain ⟨k, f⟩ := s
  cases f with
  | true =>
    refine (cur_text_bad c w l k 255 h).mono ?_
    rintro e w' ⟨rfl, rfl⟩
    exact ⟨_, _, rfl, rfl, h, grownBy_refl _ _⟩
  | false =>
    refine (cur_text_ok c w l k h hne).mono ?_
    rintro e w' ⟨rfl, h1, h2⟩
    exact ⟨_, _, rfl, rfl, h1, h2⟩
end Go.Proofs.YtipgcdpmkpjokaaDoor
