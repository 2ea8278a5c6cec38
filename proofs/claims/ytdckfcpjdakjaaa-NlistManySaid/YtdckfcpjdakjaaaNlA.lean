/- The walks of package nlist: its leaves. -/
import Derived.Test.YtdckfcpjdakjaaaCur
import Derived.Test.YtdckfcpjdakjaaaShelf
namespace Go.Proofs.Ytdckfcpjdakjaaa
set_option linter.unusedSimpArgs false
set_option linter.unusedVariables false
open Go.RowKit

set_option maxHeartbeats 400000 in
/-- bytes.Clone, in these proofs' words. -/
theorem clone_any (w : World) (p : Option Addr) (n cap : Nat) (l : List UInt8) (h : BS w (.slice p n cap) l) :
    Calls Try.prog 35 #[.slice p n cap] w fun e w' => ∃ p' cap', e = .returned (.slice p' n cap') ∧ BS w' (.slice p' n cap') l ∧ (∀ k, inBlk (.slice p' n cap') k → w.heap.size ≤ k) ∧ Below w.heap.size w w' := by
  have hl := h.len
  have hc := h.cap
  cases p with
  | none =>
    refine (Try.bytes_Clone_nil n cap w).mono ?_
    rintro e w' ⟨rfl, rfl⟩
    have hn : n = 0 := by
      rcases Nat.eq_zero_or_pos n with hn | hn
      · exact hn
      · obtain ⟨b, off, e, _⟩ := h.at hn; cases e
    subst hn
    obtain rfl : l = [] := List.eq_nil_of_length_eq_zero hl
    exact ⟨none, 0, rfl, ⟨none, 0, rfl, Nat.le_refl _, ⟨Nat.zero_le _, Nat.zero_le _⟩, fun h => absurd rfl h⟩, fun k hk => hk.elim, Below.refl _ _⟩
  | some a =>
    refine (Try.bytes_Clone_at a n cap (nums l) w (by rw [nums_length, hl]) hc.2.2 h.cellsAt).mono ?_
    rintro e w' ⟨v', rfl, hown, _, hb⟩
    rw [← u8s_eq] at hown
    obtain ⟨p', cap', rfl, hbs, hblk⟩ := BS.of_owns hown hc.2.2
    exact ⟨p', cap', rfl, hbs, hblk, hb⟩

set_option maxHeartbeats 400000 in
theorem cur_new (w : World) (p : Option Addr) (n cap : Nat) (l : List UInt8) (big : Bool) (h : BS w (.slice p n cap) l) :
    Calls Try.prog 30 #[.slice p n cap, .bool big] w fun e w' => ∃ c, e = .returned (.pointer (some ⟨c, 0, none⟩)) ∧ w.heap.size ≤ c ∧ CurAt w' c l 0 big false ∧ Below w.heap.size w w' := by
  have H := hid h
  clear h
  go_enter Try.func30, Try.ntmps30
  go_wp2_with fail
  refine (clone_any w p n cap l H.out).mono ?_
  rintro e w1 ⟨p', cap', rfl, hbs, hblk, hb⟩
  have hsz := hb.size
  have H1 := hid (And.intro hbs (And.intro hblk hb))
  clear hbs hblk hb
  go_wp2
  go_ret
  obtain ⟨hbs, hblk, hb⟩ := H1.out
  refine ⟨w1.heap.size, rfl, hsz, ⟨_, hbs.below ((Below.refl _ _).alloc (Nat.le_refl _) _), ?_, Nat.zero_le _, heap_alloc_new _ _⟩, hb.alloc hsz _⟩
  intro hk
  obtain ⟨p'', cap'', he, g1, g2, g3⟩ := hbs
  have hpos : 0 < n := by
    cases p' with
    | none => exact hk.elim
    | some a => exact hk.1
  cases he
  obtain ⟨b, off, rfl, hc⟩ := g3 (by intro e; rw [e] at hpos; exact absurd hpos (by simp))
  have h0 := hc 0 _ (List.getElem?_eq_getElem hpos)
  have := World.block_lt_of_cell? w1 _ h0
  have e : b = w1.heap.size := hk.2
  simp at this; omega

/-- bytes.IndexByte at 0, in these proofs' words. -/
theorem index0_any (w : World) (b off n cap : Nat) (L : List UInt8) (h : BS w (.slice (some ⟨b, off, none⟩) n cap) L) :
    Calls Try.prog 32 #[.slice (some ⟨b, off, none⟩) n cap, .int .u8 0] w fun e w' => e = .returned (.int .i64 (if nul L < L.length then (nul L : Int) else -1)) ∧ w = w' := by
  refine (Try.bytes_IndexByte_at ⟨b, off, none⟩ n cap (nums L) 0 w (by rw [nums_length, h.len]) h.cellsAt).mono ?_
  rintro e w' ⟨rfl, rfl⟩
  have e1 : Lib.bytesOf (nums L) = L := nums_back L
  rw [e1]
  exact ⟨by rw [← indexByte_nul]; rfl, rfl⟩

theorem un_u8 : Try.prog.underlying 5 = some (.int .u8) := by kernel_rfl
theorem un_str : Try.prog.underlying 9 = some .string := by kernel_rfl
theorem un_bs8 : Try.prog.underlying 23 = some (.slice 5) := by kernel_rfl

set_option maxHeartbeats 400000 in
/-- text: the name at a place. -/
theorem nl_text (w : World) (p : Option Addr) (n cap : Nat) (l : List UInt8) (at_ : Nat) (h : BS w (.slice p n cap) l) (hat : at_ < 2 ^ 64) :
    Calls Try.prog 21 #[.slice p n cap, .int .u64 at_] w fun e w' => e = .returned (.tuple #[.string (mkS (textM l at_).1), .int .i64 (textM l at_).2]) ∧ w = w' := by
  have hl := h.len
  have hc := h.cap
  by_cases h1 : n ≤ at_
  · have hm : textM l at_ = ([], 13) := by unfold textM; rw [if_pos (by omega)]
    have Hm := hid hm
    have hw : IntKind.u64.wrap (n : Int) = n := IntWalk.u64_in _ (by omega)
    clear hm h hl
    go_enter Try.func21, Try.ntmps21
    go_wp2
    go_ret2
    rw [Hm.out]
    exact ⟨rfl, rfl⟩
  · have hw : IntKind.u64.wrap (n : Int) = n := IntWalk.u64_in _ (by omega)
    have hml : n ≤ maxLen := by omega
    obtain rfl : l.length = n := hl
    have hrest := sub_bs h (lo := at_) (hi := l.length) (m := l.length) (by omega) (Nat.le_refl _) (Nat.le_refl _) hc.1
    rw [List.take_of_length_le (by simp)] at hrest
    obtain ⟨b, off, hp, hcl⟩ := hrest.at (by omega)
    rw [hp] at hrest
    have hsl := fun (w : World) => run_sub3 (P := Try.prog) (w := w) (t := 23) p l.length cap un_bs (sz_u8 w) .u64 .i64 .i64 at_ l.length l.length (by omega) (by omega) (by omega) (by omega)
    simp only [Int.toNat_natCast, hp] at hsl
    obtain ⟨L, hL⟩ : ∃ L, L = l.drop at_ := ⟨_, rfl⟩
    have hLl : L.length = l.length - at_ := by rw [hL]; simp
    rw [← hL] at hrest
    have hm : textM l at_ = if L.length ≤ nul L ∨ nul L = 0 then ([], 13) else if 255 < nul L then ([], 10) else (L.take (nul L), 0) := by
      unfold textM; rw [if_neg (by omega), ← hL]
    have hnl := nul_le L
    have H := hid (And.intro hm (And.intro hrest hL))
    clear hm hrest hL hcl h hp
    have hi := index0_any w b off (l.length - at_) (l.length - at_) L H.out.2.1
    by_cases hz : nul L < L.length ∧ nul L ≠ 0
    · rw [if_pos hz.1] at hi
      have hlt : 1 ≤ nul L := by omega
      have Hz := hid hz
      clear hz
      by_cases hb : 255 < nul L
      · have Hi := hid hi
        clear hi hLl
        go_enter Try.func21, Try.ntmps21
        go_wp2_with (go_at_call 32; refine (Hi.out).mono ?_; rintro e w' ⟨rfl, rfl⟩)
        go_ret2
        rw [H.out.1, if_neg (by have := Hz.out; omega), if_pos hb]
        exact ⟨rfl, rfl⟩
      · have Hi := hid hi
        have hsh := fun (w : World) => run_subh (P := Try.prog) (w := w) (t := 23) (some ⟨b, off, none⟩) (l.length - at_) (l.length - at_) un_bs (sz_u8 w) .i64 (nul L) (by omega) (by omega)
        simp only [Int.toNat_natCast] at hsh
        have hcv := run_toString (P := Try.prog) (some ⟨b, off, none⟩) (nul L) (l.length - at_) un_bs8 un_u8 un_str (pre_bs H.out.2.1 (hi := nul L) (m := l.length - at_) (by omega) (by omega) (Nat.le_refl _))
        clear hi hLl
        go_enter Try.func21, Try.ntmps21
        go_wp2_with (go_at_call 32; refine (Hi.out).mono ?_; rintro e w' ⟨rfl, rfl⟩)
        go_ret2
        rw [H.out.1, if_neg (by have := Hz.out; omega), if_neg hb]
        exact ⟨rfl, rfl⟩
    · have hm : textM l at_ = ([], 13) := by rw [H.out.1, if_pos (by omega)]
      have hlt : decide ((if nul L < L.length then (nul L : Int) else -1) < 1) = true := by simp; split <;> omega
      generalize (if nul L < L.length then (nul L : Int) else -1) = iv at hi hlt
      have hlt' : iv < 1 := by simpa using hlt
      have Hi := hid (And.intro hi hm)
      clear hi hm hz hlt hLl
      go_enter Try.func21, Try.ntmps21
      go_wp2_with (go_at_call 32; refine (Hi.out.1).mono ?_; rintro e w' ⟨rfl, rfl⟩)
      go_ret2
      rw [Hi.out.2]
      exact ⟨rfl, rfl⟩

end Go.Proofs.Ytdckfcpjdakjaaa
