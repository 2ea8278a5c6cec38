/- Package cursor: what failed; texts; places. -/
import Derived.Test.YthhjdkcnkdffcaaGreatZCurE
import Derived.Test.YthhjdkcnkdffcaaGreatZAs
import Derived.Test.YthhjdkcnkdffcaaGreatZLebM
import Derived.Test.YthhjdkcnkdffcaaGreatShelf
import Derived.BigQuiet
import Derived.Laws.BitsAllLaws
namespace Go.Proofs.YthhjdkcnkdffcaaGreat
set_option linter.unusedSimpArgs false
set_option linter.unusedVariables false
open Go.RowKit
/-- The variable of package errors that errors.As reads. -/
def ET (w : World) : Prop := w.cell? ⟨0, 0, none⟩ = some (.iface 256 (.agg #[.pointer (some ⟨2, 218, none⟩)]))
theorem ET.grown {w w' : World} {r : Option Nat} (h : ET w) (g : w.grownBy w' r) (hr : r ≠ some 0) : ET w' := by
  have hlt := lt_of_cellB h
  have hb := g.block 0 hlt (Ne.symm hr)
  unfold ET at h ⊢
  unfold World.cell? at h ⊢
  simpa [hb] using h
theorem ET.heap {w w' : World} (h : ET w) (hh : w'.heap = w.heap) : ET w' := by
  unfold ET at h ⊢
  unfold World.cell? at h ⊢
  simpa [hh] using h
theorem ET.ne {w : World} (h : ET w) {c k : Nat} {l : List UInt8} {big f : Bool} (hc : CurAt w c l k big f) : some c ≠ some 0 := by
  rintro e
  obtain rfl := Option.some.inj e
  obtain ⟨v, hv, hb, hk, hh⟩ := hc
  obtain ⟨p, cap, rfl, _⟩ := id hv
  have := (cur_cells hh).1.1
  rw [h] at this
  cases this
theorem grownBy_below {w w' : World} (h : w.grownBy w' none) : Below w.heap.size w w' := ⟨h.os, h.tape, h.output, h.size, fun k hk => h.block k hk (by simp)⟩
theorem CurAt.lt {w : World} {c k : Nat} {l : List UInt8} {big f : Bool} (h : CurAt w c l k big f) : c < w.heap.size := by
  obtain ⟨v, hv1, hb, hk, hc⟩ := h
  rcases Nat.lt_or_ge c w.heap.size with h | h
  · exact h
  · simp [Array.getElem?_eq_none h] at hc
theorem CurAt.below {w w' : World} {c k : Nat} {l : List UInt8} {big f : Bool} (h : CurAt w c l k big f) (hb : Below w.heap.size w w') : CurAt w' c l k big f := by
  have hlt := h.lt
  obtain ⟨v, hv1, hnb, hk, hc⟩ := h
  exact ⟨v, hv1.below hb, hnb, hk, by rw [hb.block c hlt]; exact hc⟩
set_option maxHeartbeats 400000 in
theorem cur_wrong_ok (c : Nat) (w : World) (hx : w.cell? ⟨c, 3, none⟩ = some (.bool false)) :
    Calls Tryz.prog 136 #[.pointer (some ⟨c, 0, none⟩)] w fun e w' => e = .returned .nilIface ∧ w' = w := by
  go_enter Tryz.func136, Tryz.ntmps136
  go_wp2
  go_ret
  exact ⟨rfl, rfl⟩
set_option maxHeartbeats 400000 in
theorem cur_wrong_bad (c : Nat) (w : World) (k : Nat) (hx : w.cell? ⟨c, 3, none⟩ = some (.bool true)) (h1 : w.cell? ⟨c, 1, none⟩ = some (.int .i64 k)) :
    Calls Tryz.prog 136 #[.pointer (some ⟨c, 0, none⟩)] w fun e w' => e = .returned (.iface 233 (.pointer (some ⟨w.heap.size, 0, none⟩))) ∧ w' = w.alloc (.cells #[.int .i64 k, .int .i64 3] 235) := by
  go_enter Tryz.func136, Tryz.ntmps136
  go_wp2
  go_ret
  exact ⟨rfl, rfl⟩
/-- Err: is 3 of a cursor that failed, 0 else. -/
theorem cur_err (c : Nat) (w : World) (l : List UInt8) (k : Nat) (big f : Bool) (h : CurAt w c l k big f) (hg : ET w) :
    Calls Tryz.prog 121 #[.pointer (some ⟨c, 0, none⟩)] w fun e w' => e = .returned (.int .i64 (if f then 3 else 0)) ∧ Below w.heap.size w w' := by
  obtain ⟨v, hv, hb, hk, hc⟩ := h
  obtain ⟨⟨h0, h1, h2, h3⟩, hf⟩ := cur_cells hc
  cases f with
  | false =>
    go_enter Tryz.func121, Tryz.ntmps121
    go_wp2_with (first
      | (go_at_call 136; refine (cur_wrong_ok c _ h3).mono ?_; rintro e w' ⟨rfl, rfl⟩)
      | (go_at_call 135; refine (code_nil _).mono ?_; rintro e w' ⟨rfl, hgr⟩))
    go_ret
    exact ⟨rfl, grownBy_below hgr⟩
  | true =>
    have hg1 := hg.grown (World.grownBy_alloc w (.cells #[.int .i64 k, .int .i64 3] 235) none) (by simp)
    have hc := code_wrong w.heap.size 3 (w.alloc (.cells #[.int .i64 k, .int .i64 3] 235)) hg1 (by simp)
    have hgr2 := fun w' (x : (w.alloc (.cells #[.int .i64 k, .int .i64 3] 235)).grownBy w' none) => grownBy_tr (World.grownBy_alloc w _ none) x
    go_enter Tryz.func121, Tryz.ntmps121
    go_wp2_with (first
      | (go_at_call 136; refine (cur_wrong_bad c _ k h3 h1).mono ?_; rintro e w' ⟨rfl, rfl⟩)
      | (go_at_call 135; refine hc.mono ?_; rintro e w' ⟨rfl, hgr⟩))
    go_ret
    exact ⟨rfl, grownBy_below (hgr2 _ hgr)⟩
set_option maxHeartbeats 400000 in
theorem cur_at (c : Nat) (w : World) (k : Nat) (h1 : w.cell? ⟨c, 1, none⟩ = some (.int .i64 k)) :
    Calls Tryz.prog 123 #[.pointer (some ⟨c, 0, none⟩)] w fun e w' => e = .returned (.int .i64 k) ∧ w' = w := by
  go_enter Tryz.func123, Tryz.ntmps123
  go_wp2
  go_ret
  exact ⟨rfl, rfl⟩
/-- A cursor in the state s. -/
def CuAt (w : World) (c : Nat) (l : List UInt8) (s : Cu) : Prop := CurAt w c l s.at_ false s.bad
/-- A byte at a cursor's place. -/
def num1 (l : List UInt8) (s : Cu) : Nat × Cu :=
  if s.bad then (0, s)
  else match l[s.at_]? with
    | some x => (x.toNat, ⟨s.at_ + 1, false⟩)
    | none => (0, ⟨s.at_, true⟩)
set_option maxHeartbeats 1000000 in
theorem cur_num1_bad (c : Nat) (w : World) (l : List UInt8) (k : Nat) (h : CurAt w c l k false true) :
    Calls Tryz.prog 125 #[.pointer (some ⟨c, 0, none⟩), .int .i64 1] w fun e w' => e = .returned (.int .u64 0) ∧ w' = w := by
  obtain ⟨v, hv, hb, hk, hc⟩ := h
  obtain ⟨⟨h0, h1, h2, h3⟩, hf⟩ := cur_cells hc
  go_enter Tryz.func125, Tryz.ntmps125
  go_wp2_with fail
  refine (cur_well_t c _ true (by exact h3)).mono ?_
  rintro e w' ⟨rfl, rfl⟩
  go_wp2
  go_ret
  exact ⟨rfl, rfl⟩
set_option maxHeartbeats 1000000 in
theorem cur_num1_out (c : Nat) (w : World) (l : List UInt8) (h : CurAt w c l l.length false false) (hl : l.length ≤ 140737488355328) :
    Calls Tryz.prog 125 #[.pointer (some ⟨c, 0, none⟩), .int .i64 1] w fun e w' => e = .returned (.int .u64 0) ∧ CurAt w' c l l.length false true ∧ w.grownBy w' (some c) := by
  have H := hid h
  obtain ⟨v, hv, hb, hk, hc⟩ := h
  obtain ⟨⟨h0, h1, h2, h3⟩, hf⟩ := cur_cells hc
  go_enter Tryz.func125, Tryz.ntmps125
  go_wp2_with fail
  refine (cur_well_t c _ false (by exact h3)).mono ?_
  rintro e w' ⟨rfl, rfl⟩
  go_wp2_with fail
  refine (cur_take_out c _ l l.length 1 false false H.out hl (by right; omega)).mono ?_
  rintro e w1 ⟨rfl, hc1, hg1⟩
  have H1 := hid (And.intro hc1 hg1)
  clear hc1 hg1
  go_wp2
  refine wp_loop_rounds 1 ?_
  rw [rounds_succ]
  go_wp2
  go_ret
  exact ⟨rfl, H1.out.1, H1.out.2⟩
theorem cur_num1 (c : Nat) (w : World) (l : List UInt8) (s : Cu) (h : CuAt w c l s) (hl : l.length ≤ 140737488355328) :
    Calls Tryz.prog 125 #[.pointer (some ⟨c, 0, none⟩), .int .i64 1] w fun e w' =>
      ∃ n s', num1 l s = (n, s') ∧ e = .returned (.int .u64 (n : Nat)) ∧ CuAt w' c l s' ∧ w.grownBy w' (some c) := by
  obtain ⟨k, f⟩ := s
  have hk : k ≤ l.length := by obtain ⟨v, hv, hb, hk, hc⟩ := h; exact hk
  cases f with
  | true =>
    refine (cur_num1_bad c w l k h).mono ?_
    rintro e w' ⟨rfl, rfl⟩
    exact ⟨_, _, rfl, rfl, h, grownBy_refl _ _⟩
  | false =>
    by_cases hlt : k < l.length
    · refine (cur_number_ok c w l k 1 1 (.inl rfl) rfl h (by omega)).mono ?_
      rintro e w' ⟨rfl, h1, h2⟩
      have hx : l[k]? = some (l[k]) := List.getElem?_eq_getElem hlt
      refine ⟨l[k].toNat, ⟨k + 1, false⟩, by simp [num1, hx], ?_, h1, h2⟩
      congr 2
      have : (l.drop k).take 1 = [l[k]] := by
        rw [List.drop_eq_getElem_cons hlt]; rfl
      rw [this]
      simp [leNat]
    · obtain rfl : k = l.length := by omega
      refine (cur_num1_out c w l h hl).mono ?_
      rintro e w' ⟨rfl, h1, h2⟩
      exact ⟨0, ⟨l.length, true⟩, by simp [num1], rfl, h1, h2⟩
end Go.Proofs.YthhjdkcnkdffcaaGreat

namespace Go.Proofs.YthhjdkcnkdffcaaGreat
set_option linter.unusedSimpArgs false
set_option linter.unusedVariables false
open Go.RowKit
set_option maxHeartbeats 400000 in
/-- bytes.Clone, in these proofs' words. -/
theorem clone_any (w : World) (p : Option Addr) (n cap : Nat) (l : List UInt8) (h : BS w (.slice p n cap) l) :
    Calls Tryz.prog 117 #[.slice p n cap] w fun e w' => ∃ p' cap', e = .returned (.slice p' n cap') ∧ BS w' (.slice p' n cap') l ∧ (∀ k, inBlk (.slice p' n cap') k → w.heap.size ≤ k) ∧ Below w.heap.size w w' := by
  have hl := h.len
  have hc := h.cap
  cases p with
  | none =>
    refine (Tryz.bytes_Clone_nil n cap w).mono ?_
    rintro e w' ⟨rfl, rfl⟩
    have hn : n = 0 := by
      rcases Nat.eq_zero_or_pos n with hn | hn
      · exact hn
      · obtain ⟨b, off, e, _⟩ := h.at hn; cases e
    subst hn
    obtain rfl : l = [] := List.eq_nil_of_length_eq_zero hl
    exact ⟨none, 0, rfl, ⟨none, 0, rfl, Nat.le_refl _, ⟨Nat.zero_le _, Nat.zero_le _⟩, fun h => absurd rfl h⟩, fun k hk => hk.elim, Below.refl _ _⟩
  | some a =>
    refine (Tryz.bytes_Clone_at a n cap (nums l) w (by rw [nums_length, hl]) hc.2.2 h.cellsAt).mono ?_
    rintro e w' ⟨v', rfl, hown, _, hb⟩
    rw [← u8s_eq] at hown
    obtain ⟨p', cap', rfl, hbs, hblk⟩ := BS.of_owns hown hc.2.2
    exact ⟨p', cap', rfl, hbs, hblk, hb⟩
set_option maxHeartbeats 400000 in
theorem cur_new (w : World) (p : Option Addr) (n cap : Nat) (l : List UInt8) (big : Bool) (h : BS w (.slice p n cap) l) :
    Calls Tryz.prog 106 #[.slice p n cap, .bool big] w fun e w' => ∃ c, e = .returned (.pointer (some ⟨c, 0, none⟩)) ∧ w.heap.size ≤ c ∧ CurAt w' c l 0 big false ∧ Below w.heap.size w w' := by
  have H := hid h
  clear h
  go_enter Tryz.func106, Tryz.ntmps106
  go_wp2_with fail
  refine (clone_any w p n cap l H.out).mono ?_
  rintro e w1 ⟨p', cap', rfl, hbs, hblk, hb⟩
  have hsz := hb.size
  have H1 := hid (And.intro hbs (And.intro hblk hb))
  clear hbs hblk hb
  go_wp2
  go_ret
  obtain ⟨hbs, hblk, hb⟩ := H1.out
  refine ⟨w1.heap.size, rfl, hsz, ⟨_, hbs.below ((Below.refl _ _).alloc (Nat.le_refl _) _), ?_, Nat.zero_le _, heap_alloc_new _ _⟩, hb.alloc hsz _⟩
  intro kb hk
  obtain ⟨p'', cap'', he, g1, g2, g3⟩ := hbs
  have hpos : 0 < n := by
    cases p' with
    | none => exact hk.elim
    | some a => exact hk.1
  cases he
  obtain ⟨b, off, rfl, hc⟩ := g3 (by intro e; rw [e] at hpos; exact absurd hpos (by simp))
  have h0 := hc 0 _ (List.getElem?_eq_getElem hpos)
  have := World.block_lt_of_cell? w1 _ h0
  have e : b = kb := hk.2
  simp at this; omega
set_option maxHeartbeats 400000 in
theorem cur_seek_ok (c : Nat) (w : World) (l : List UInt8) (k k' : Nat) (n : Int) (big : Bool) (h : CurAt w c l k big false) (hn : n = k') (hk' : k' ≤ l.length) :
    Calls Tryz.prog 119 #[.pointer (some ⟨c, 0, none⟩), .int .i64 n] w fun e w' => e = .returned (.tuple #[]) ∧ CurAt w' c l k' big false ∧ w.grownBy w' (some c) := by
  subst hn
  have hmv := h.moved k' hk'
  obtain ⟨v, hv, hb, hk, hc⟩ := h
  obtain ⟨p, cap, rfl, g1, g2, g3⟩ := id hv
  obtain ⟨⟨h0, h1, h2, h3⟩, hf⟩ := cur_cells hc
  have hf1 := hf 1
  have H := hid (And.intro hmv (grownBy_setCell w c 1 (.int .i64 (k' : Int))))
  have hle : decide ((k' : Int) ≤ (l.length : Int)) = true := by simp; omega
  have hle0 : decide ((0 : Int) ≤ (k' : Int)) = true := by simp
  clear hmv hv hb hc hf g3
  go_enter Tryz.func119, Tryz.ntmps119
  go_wp2_with fail
  refine (cur_well_t c _ false (by exact h3)).mono ?_
  rintro e w' ⟨rfl, rfl⟩
  go_wp2
  go_end0
  exact ⟨rfl, H.out.1.heap rfl, grownBy_heap H.out.2 rfl rfl rfl rfl⟩
set_option maxHeartbeats 400000 in
theorem cur_seek_bad (c : Nat) (w : World) (l : List UInt8) (k k' : Nat) (n : Int) (big : Bool) (h : CurAt w c l k big true) (hn : n = k') (hk' : k' ≤ l.length) :
    Calls Tryz.prog 119 #[.pointer (some ⟨c, 0, none⟩), .int .i64 n] w fun e w' => e = .returned (.tuple #[]) ∧ w' = w := by
  subst hn
  obtain ⟨v, hv, hb, hk, hc⟩ := h
  obtain ⟨p, cap, rfl, g1, g2, g3⟩ := id hv
  obtain ⟨⟨h0, h1, h2, h3⟩, hf⟩ := cur_cells hc
  have hle : decide ((k' : Int) ≤ (l.length : Int)) = true := by simp; omega
  have hle0 : decide ((0 : Int) ≤ (k' : Int)) = true := by simp
  clear hv hb hc hf g3
  go_enter Tryz.func119, Tryz.ntmps119
  go_wp2_with fail
  refine (cur_well_t c _ true (by exact h3)).mono ?_
  rintro e w' ⟨rfl, rfl⟩
  go_wp2
  go_end0
  exact ⟨rfl, rfl⟩
end Go.Proofs.YthhjdkcnkdffcaaGreat

namespace Go.Proofs.YthhjdkcnkdffcaaGreat
set_option linter.unusedSimpArgs false
set_option linter.unusedVariables false
open Go.RowKit
theorem un_bs8 : Tryz.prog.underlying 27 = some (.slice 5) := by kernel_rfl
theorem un_u8 : Tryz.prog.underlying 5 = some (.int .u8) := by kernel_rfl
theorem un_str : Tryz.prog.underlying 9 = some .string := by kernel_rfl
theorem idx_any (w : World) (a : Addr) (n cap : Nat) (l : List UInt8) (h : BS w (.slice (some a) n cap) l) :
    Calls Tryz.prog 138 #[.slice (some a) n cap, .int .u8 0] w fun e w' => e = .returned (.int .i64 (Lib.indexByte l 0)) ∧ w' = w := by
  have hl := h.len
  refine (Tryz.bytes_IndexByte_at a n cap (nums l) 0 w (by rw [nums_length, hl]) h.cellsAt).mono ?_
  rintro e w' ⟨rfl, rfl⟩
  refine ⟨?_, rfl⟩
  have : Lib.bytesOf (nums l) = l := by rw [← nums_back l]; simp [Lib.bytesOf, nums_back]
  rw [this]
  rfl
theorem subA_some {p : Option Addr} {lo m : Nat} {a : Addr} (h : p = some a) : ∃ a', subA p lo m = some a' := by
  subst h; unfold subA; split
  · exact ⟨a, rfl⟩
  · exact ⟨_, rfl⟩
set_option maxHeartbeats 1000000 in
theorem cur_text_bad (c : Nat) (w : World) (l : List UInt8) (k : Nat) (m : Int) (h : CurAt w c l k false true) :
    Calls Tryz.prog 126 #[.pointer (some ⟨c, 0, none⟩), .int .i64 m] w fun e w' => e = .returned (.string (mkS [])) ∧ w' = w := by
  obtain ⟨v, hv, hb, hk, hc⟩ := h
  obtain ⟨⟨h0, h1, h2, h3⟩, hf⟩ := cur_cells hc
  go_enter Tryz.func126, Tryz.ntmps126
  go_wp2_with fail
  refine (cur_well_t c _ true (by exact h3)).mono ?_
  rintro e w' ⟨rfl, rfl⟩
  go_wp2
  go_ret
  exact ⟨rfl, rfl⟩
theorem idxNat (L : List UInt8) (h : nul L < L.length) : Lib.indexByte L 0 = (nul L : Int) := by rw [indexByte_nul, if_pos h]
theorem idxNeg (L : List UInt8) (h : ¬ nul L < L.length) : Lib.indexByte L 0 = -1 := by rw [indexByte_nul, if_neg h]
set_option maxHeartbeats 1000000 in
theorem cur_text_ok (c : Nat) (w : World) (l : List UInt8) (k : Nat) (h : CurAt w c l k false false) (hne : l ≠ []) :
    Calls Tryz.prog 126 #[.pointer (some ⟨c, 0, none⟩), .int .i64 255] w fun e w' =>
      e = .returned (.string (mkS (textC l 255 ⟨k, false⟩).1)) ∧ CuAt w' c l (textC l 255 ⟨k, false⟩).2 ∧ w.grownBy w' (some c) := by
  have h' := h
  have hfl := h.failed
  obtain ⟨v, hv, hb, hk, hc⟩ := h
  obtain ⟨p, cap, rfl, g1, g2, g3⟩ := id hv
  obtain ⟨⟨h0, h1, h2, h3⟩, hf⟩ := cur_cells hc
  have hf3 := hf 3
  obtain ⟨b, off, rfl, -⟩ := g3 hne
  have hdb := drop_bs hv (lo := k) hk
  obtain ⟨a', ha'⟩ := subA_some (p := some ⟨b, off, none⟩) (lo := k) (m := cap) rfl
  have hsl := fun (w : World) => run_subl (P := Tryz.prog) (w := w) (t := 27) (some ⟨b, off, none⟩) l.length cap un_bs (sz_u8 w) .i64 (k : Int) (by omega) (by omega)
  rw [ha'] at hdb
  simp only [Int.toNat_natCast, ha'] at hsl
  have hlen : (l.drop k).length = l.length - k := List.length_drop
  have hnl := nul_le (l.drop k)
  obtain ⟨N, hN⟩ : ∃ N, N = nul (l.drop k) := ⟨_, rfl⟩
  obtain ⟨X, hX⟩ : ∃ X, X = Lib.indexByte (l.drop k) 0 := ⟨_, rfl⟩
  have hix := fun (W : World) (hh : W.heap = w.heap) => idx_any W a' _ _ _ (hdb.heap hh)
  rw [← hX] at hix
  have HN := hid hN
  have H := hid (And.intro h' (And.intro hfl (And.intro hdb (grownBy_setCell w c 3 (.bool true)))))
  have Hix := hid hix
  clear hix h' hfl hdb hv hb hc hf g3
  rw [← hN] at hnl
  by_cases hlt : N < (l.drop k).length ∧ N ≤ 255
  · have hXN : X = (N : Int) := by rw [hX, idxNat _ (by rw [← hN]; exact hlt.1), hN]
    have e : textC l 255 ⟨k, false⟩ = ((l.drop k).take N, ⟨k + N + 1, false⟩) := by
      unfold textC
      rw [if_neg (by simp), ← hN, if_pos hlt]
    have He := hid e
    subst hXN
    have hd1 : decide ((0 : Int) ≤ (N : Int)) = true := by simp
    have hd2 : decide ((N : Int) ≤ 255) = true := by simp; omega
    have hw1 : IntKind.i64.wrap ((N : Int) + 1) = (N : Int) + 1 := IntWalk.i64_in _ (by omega)
    have hlt1 := hlt.1
    rw [hlen] at hlt1
    clear hX e hN hlt hlen
    go_enter Tryz.func126, Tryz.ntmps126
    go_wp2_with fail
    refine (cur_well_t c _ false (by exact h3)).mono ?_
    rintro e w' ⟨rfl, rfl⟩
    go_wp2_with fail
    go_quiet (first | (go_at_call 138; refine Calls.quiet_of_same (Hix.out _ (by rfl))))
    go_wp2_with fail
    refine (cur_well_t c _ false (by exact h3)).mono ?_
    rintro e w' ⟨rfl, rfl⟩
    go_wp2_with fail
    refine (cur_take_ok c (w.drewN nq) l k (N + 1) ((N : Int) + 1) (by omega) false (H.out.1.heap (w' := w.drewN nq) rfl) (by omega)).mono ?_
    rintro e w1 ⟨p', c', rfl, hb1, -, hc1, hg1⟩
    have hpre := pre_bs hb1 (hi := N) (m := c') (by omega) (by have := hb1.cap; omega) (Nat.le_refl _)
    rw [List.take_take, Nat.min_eq_left (by omega)] at hpre
    have hcap := hb1.cap
    have hsh := fun (w : World) => run_subh (P := Tryz.prog) (w := w) (t := 27) p' (N + 1) c' un_bs (sz_u8 w) .i64 (N : Int) (by omega) (by omega)
    have hts := run_toString (P := Tryz.prog) (dst := 9) _ _ _ un_bs8 un_u8 un_str hpre
    simp only [Int.toNat_natCast] at hsh
    have H1 := hid (And.intro hc1 hg1)
    clear hb1 hc1 hg1 hpre
    go_wp2_with fail
    go_ret
    obtain ⟨hc1, hg1⟩ := H1.out
    rw [He.out]
    exact ⟨rfl, by rw [Nat.add_assoc]; exact hc1, ⟨hg1.os, hg1.tape, hg1.output, hg1.size, hg1.block⟩⟩
  · have hcase : (X = -1) ∨ (X = (N : Int) ∧ 255 < N) := by
      by_cases h1 : N < (l.drop k).length
      · right; exact ⟨by rw [hX, idxNat _ (by rw [← hN]; exact h1), hN], by omega⟩
      · left; rw [hX, idxNeg _ (by rw [← hN]; exact h1)]
    have e : textC l 255 ⟨k, false⟩ = ([], ⟨k, true⟩) := by
      unfold textC
      rw [if_neg (by simp), ← hN, if_neg hlt]
    have He := hid e
    clear hX e hN hlt hlen
    rcases hcase with rfl | ⟨rfl, hbig⟩
    · go_enter Tryz.func126, Tryz.ntmps126
      go_wp2_with fail
      refine (cur_well_t c _ false (by exact h3)).mono ?_
      rintro e w' ⟨rfl, rfl⟩
      go_wp2_with fail
      go_quiet (first | (go_at_call 138; refine Calls.quiet_of_same (Hix.out _ (by rfl))))
      go_wp2_with fail
      refine (cur_well_f c _ (by exact hf3) _ (by exact h3)).mono ?_
      rintro e w' ⟨rfl, rfl⟩
      go_wp2
      go_ret
      rw [He.out]
      exact ⟨rfl, H.out.2.1.heap rfl, grownBy_heap H.out.2.2.2 rfl rfl rfl rfl⟩
    · have hd1 : decide ((0 : Int) ≤ (N : Int)) = true := by simp
      have hd2 : decide ((N : Int) ≤ 255) = false := by simp; omega
      go_enter Tryz.func126, Tryz.ntmps126
      go_wp2_with fail
      refine (cur_well_t c _ false (by exact h3)).mono ?_
      rintro e w' ⟨rfl, rfl⟩
      go_wp2_with fail
      go_quiet (first | (go_at_call 138; refine Calls.quiet_of_same (Hix.out _ (by rfl))))
      go_wp2_with fail
      refine (cur_well_f c _ (by exact hf3) _ (by exact h3)).mono ?_
      rintro e w' ⟨rfl, rfl⟩
      go_wp2
      go_ret
      rw [He.out]
      exact ⟨rfl, H.out.2.1.heap rfl, grownBy_heap H.out.2.2.2 rfl rfl rfl rfl⟩
theorem cur_text (c : Nat) (w : World) (l : List UInt8) (s : Cu) (h : CuAt w c l s) (hne : l ≠ []) :
    Calls Tryz.prog 126 #[.pointer (some ⟨c, 0, none⟩), .int .i64 255] w fun e w' =>
      ∃ t s', textC l 255 s = (t, s') ∧ e = .returned (.string (mkS t)) ∧ CuAt w' c l s' ∧ w.grownBy w' (some c) := by
  obtain ⟨k, f⟩ := s
  cases f with
  | true =>
    refine (cur_text_bad c w l k 255 h).mono ?_
    rintro e w' ⟨rfl, rfl⟩
    exact ⟨_, _, rfl, rfl, h, grownBy_refl _ _⟩
  | false =>
    refine (cur_text_ok c w l k h hne).mono ?_
    rintro e w' ⟨rfl, h1, h2⟩
    exact ⟨_, _, rfl, rfl, h1, h2⟩
end Go.Proofs.YthhjdkcnkdffcaaGreat

namespace Go.Proofs.YthhjdkcnkdffcaaGreat
set_option linter.unusedSimpArgs false
set_option linter.unusedVariables false
def saysC (l : List UInt8) (s : Cu) : Exp × Bool × Cu :=
  match numC l s with
  | (fl, s1) =>
    if bareF fl = 8 then
      match numC l s1 with
      | (o, s2) =>
        match textC l 255 s2 with
        | (t, s3) => (⟨[], 3, fl / 4 % 2 == 1, 0, 0, o, t⟩, !s3.bad, s3)
    else if bareF fl = 0 then
      match numC l s1 with
      | (v, s2) => (⟨[], 1, fl / 4 % 2 == 1, v, 0, 0, []⟩, !s2.bad, s2)
    else if bareF fl = 2 then
      match numC l s1 with
      | (v, s2) => (⟨[], 2, fl / 4 % 2 == 1, v, 0, 0, []⟩, !s2.bad, s2)
    else if bareF fl = 16 then
      match numC l s1 with
      | (v, s2) =>
        match numC l s2 with
        | (r, s3) => (⟨[], 4, fl / 4 % 2 == 1, v, r, 0, []⟩, !s3.bad, s3)
    else (⟨[], 0, fl / 4 % 2 == 1, 0, 0, 0, []⟩, false, s1)
theorem numC_bad (l : List UInt8) (k : Nat) : numC l ⟨k, true⟩ = (0, ⟨k, true⟩) := rfl
theorem textC_bad (l : List UInt8) (m k : Nat) : textC l m ⟨k, true⟩ = ([], ⟨k, true⟩) := rfl
theorem numC_some {l : List UInt8} {k n j : Nat} (h : ulebM (l.drop k) = some (n, j)) : numC l ⟨k, false⟩ = (n, ⟨k + j, false⟩) := by
  unfold numC; rw [if_neg (by simp), h]
theorem numC_none {l : List UInt8} {k : Nat} (h : ulebM (l.drop k) = none) : numC l ⟨k, false⟩ = (0, ⟨k, true⟩) := by
  unfold numC; rw [if_neg (by simp), h]
theorem textC_some {l : List UInt8} {k j : Nat} {t : List UInt8} (h : textR (l.drop k) = some (t, j)) : textC l 255 ⟨k, false⟩ = (t, ⟨k + j, false⟩) := by
  unfold textR at h
  split at h
  · rename_i hc
    cases h
    unfold textC
    rw [if_neg (by simp), if_pos hc, Nat.add_assoc]
  · cases h
theorem textC_none {l : List UInt8} {k : Nat} (h : textR (l.drop k) = none) : textC l 255 ⟨k, false⟩ = ([], ⟨k, true⟩) := by
  unfold textR at h
  split at h
  · cases h
  · rename_i hc
    unfold textC
    rw [if_neg (by simp), if_neg hc]
theorem saysC_R (l : List UInt8) (k : Nat) :
    match saysR (l.drop k) with
    | some (x, n) => saysC l ⟨k, false⟩ = (x, true, ⟨k + n, false⟩)
    | none => (saysC l ⟨k, false⟩).2.1 = false := by
  unfold saysR saysC
  cases h0 : ulebM (l.drop k) with
  | none =>
    rw [numC_none h0]
    simp only [show bareF 0 = 0 from rfl, numC_bad]
    rfl
  | some p =>
    obtain ⟨fl, j⟩ := p
    rw [numC_some h0]
    dsimp only
    unfold saysF
    simp only [List.drop_drop]
    by_cases h8 : bareF fl = 8
    · simp only [h8, if_true]
      cases h1 : ulebM (l.drop (k + j)) with
      | none => simp only [numC_none h1, textC_bad]; rfl
      | some q =>
        obtain ⟨o, j2⟩ := q
        simp only [numC_some h1]
        rw [← Nat.add_assoc]
        cases h2 : textR (l.drop (k + j + j2)) with
        | none => simp only [textC_none h2]; rfl
        | some q2 =>
          obtain ⟨t, j3⟩ := q2
          simp only [textC_some h2, ← Nat.add_assoc]
          rfl
    · simp only [h8, if_false]
      by_cases hz : bareF fl = 0
      · simp only [hz, if_true]
        cases h1 : ulebM (l.drop (k + j)) with
        | none => simp only [numC_none h1]; rfl
        | some q =>
          obtain ⟨o, j2⟩ := q
          simp only [numC_some h1, ← Nat.add_assoc]; rfl
      · simp only [hz, if_false]
        by_cases h2 : bareF fl = 2
        · simp only [h2, if_true]
          cases h1 : ulebM (l.drop (k + j)) with
          | none => simp only [numC_none h1]; rfl
          | some q =>
            obtain ⟨o, j2⟩ := q
            simp only [numC_some h1, ← Nat.add_assoc]; rfl
        · simp only [h2, if_false]
          by_cases h16 : bareF fl = 16
          · simp only [h16, if_true]
            cases h1 : ulebM (l.drop (k + j)) with
            | none => simp only [numC_none h1, numC_bad]; rfl
            | some q =>
              obtain ⟨o, j2⟩ := q
              simp only [numC_some h1]
              rw [← Nat.add_assoc]
              cases h2 : ulebM (l.drop (k + j + j2)) with
              | none => simp only [numC_none h2]; rfl
              | some q2 =>
                obtain ⟨t, j3⟩ := q2
                simp only [numC_some h2, ← Nat.add_assoc]
                rfl
          · simp only [h16, if_false]
theorem bareF_bit (a i : Nat) : (bareF a).testBit i = (a.testBit i && !decide (i = 2)) := by
  rcases Nat.lt_or_ge i 3 with h | h
  · have : i = 0 ∨ i = 1 ∨ i = 2 := by omega
    rcases this with rfl | rfl | rfl
    · simp only [Nat.testBit_eq_decide_div_mod_eq]
      simp
      unfold bareF; split <;> omega
    · simp only [Nat.testBit_eq_decide_div_mod_eq]
      simp
      unfold bareF; split <;> omega
    · simp only [Nat.testBit_eq_decide_div_mod_eq]
      simp
      unfold bareF; split <;> omega
  · obtain ⟨j, rfl⟩ : ∃ j, i = j + 3 := ⟨i - 3, by omega⟩
    rw [← Nat.testBit_div_two_pow, ← Nat.testBit_div_two_pow]
    have e : bareF a / 2 ^ 3 = a / 2 ^ 3 := by unfold bareF; split <;> omega
    rw [e]
    have : decide (j + 3 = 2) = false := decide_eq_false (by omega)
    rw [this]; simp
theorem andNot4 (a : Nat) (h : a < 2 ^ 64) : bits BinOp.andNot IntKind.u64 (a : Int) 4 = (bareF a : Nat) := by
  rw [show (4 : Int) = ((4 : Nat) : Int) from rfl, u64_andNot_nat a 4 (by omega) (by omega)]
  congr 1
  apply Nat.eq_of_testBit_eq
  intro i
  rw [bareF_bit, Nat.testBit_and, show 18446744073709551615 - 4 = 2 ^ 64 - (4 + 1) from rfl, Nat.testBit_two_pow_sub_succ (by omega)]
  by_cases hi : i < 64
  · have : (4 : Nat).testBit i = decide (i = 2) := by
      rw [show (4 : Nat) = 2 ^ 2 from rfl, Nat.testBit_two_pow]
      simp [eq_comm]
    simp [hi, this]
  · have : a.testBit i = false := Nat.testBit_lt_two_pow (Nat.lt_of_lt_of_le h (Nat.pow_le_pow_right (by omega) (by omega)))
    simp [this]
theorem and4 (a : Nat) (h : a < 2 ^ 64) : (bits BinOp.and IntKind.u64 (a : Int) 4 != 0) = (a / 4 % 2 == 1) := by
  rw [show (4 : Int) = ((4 : Nat) : Int) from rfl, and_u64 a 4 (by omega) (by omega)]
  have e : a &&& 4 = a / 4 % 2 * 4 := by
    apply Nat.eq_of_testBit_eq
    intro i
    rw [Nat.testBit_and, show (4 : Nat) = 2 ^ 2 from rfl, Nat.testBit_two_pow, Nat.mul_comm, Nat.testBit_two_pow_mul]
    by_cases hi : 2 = i
    · subst hi
      simp [Nat.testBit_eq_decide_div_mod_eq]
    · simp [hi]
      intro h7
      have hlt : a / 2 ^ 2 % 2 < 2 ^ (i - 2) := Nat.lt_of_lt_of_le (Nat.mod_lt _ (by omega)) (Nat.pow_le_pow_right (show 0 < 2 by omega) (show 1 ≤ i - 2 by omega))
      exact Nat.testBit_lt_two_pow hlt
  rw [e]
  rcases Nat.mod_two_eq_zero_or_one (a / 4) with h0 | h0 <;> rw [h0] <;> rfl
theorem numC_lt {l : List UInt8} {s s' : Cu} {n : Nat} (h : numC l s = (n, s')) : n < 2 ^ 64 := by
  obtain ⟨k, f⟩ := s
  cases f with
  | true => rw [numC_bad] at h; cases h; omega
  | false =>
    cases hu : ulebM (l.drop k) with
    | none => rw [numC_none hu] at h; cases h; omega
    | some p =>
      obtain ⟨m, j⟩ := p
      rw [numC_some hu] at h; cases h
      exact (ulebM_lt hu).1
end Go.Proofs.YthhjdkcnkdffcaaGreat

namespace Go.Proofs.YthhjdkcnkdffcaaGreat
set_option linter.unusedSimpArgs false
set_option linter.unusedVariables false
/-- What is still to come of so many children, from a cursor on. -/
def restM (l : List UInt8) (n : Nat) (s : Cu) (acc : List KidM) : Option (List KidM) := if s.bad then none else kidsR l.length n (l.drop s.at_) acc
theorem restM_zero (l : List UInt8) (s : Cu) (acc : List KidM) : restM l 0 s acc = if s.bad then none else some acc := rfl
theorem restM_step (l : List UInt8) (n : Nat) (s s1 s2 : Cu) (acc : List KidM) (t : List UInt8) (to : Nat) (h1 : textC l 255 s = (t, s1)) (h2 : numC l s1 = (to, s2)) :
    restM l (n + 1) s acc = if t = [] then none else if acc.any (fun x => x.edge.head? == t.head?) then none else restM l n s2 (acc ++ [⟨t, placeM to l.length⟩]) := by
  obtain ⟨p, f⟩ := s
  unfold restM
  cases f with
  | true =>
    rw [textC_bad] at h1
    cases h1
    simp
  | false =>
    simp only [Bool.false_eq_true, if_false]
    rw [kidsR]
    cases ht : textR (l.drop p) with
    | none =>
      rw [textC_none ht] at h1
      cases h1
      simp
    | some q =>
      obtain ⟨e, k⟩ := q
      rw [textC_some ht] at h1
      cases h1
      dsimp only
      rw [List.drop_drop]
      cases hu : ulebM (l.drop (p + k)) with
      | none =>
        rw [numC_none hu] at h2
        cases h2
        simp
      | some q2 =>
        obtain ⟨v, k2⟩ := q2
        rw [numC_some hu] at h2
        cases h2
        simp only [Bool.false_eq_true, if_false]
        split
        · rfl
        · split
          · rfl
          · rw [List.drop_drop, Nat.add_assoc]
theorem readM_none {l : List UInt8} {at_ : Nat} (h : ulebM (l.drop at_) = none) : readM l at_ = none := by unfold readM; rw [h]
theorem readM_big {l : List UInt8} {at_ size k : Nat} (h : ulebM (l.drop at_) = some (size, k)) (hb : l.length - (at_ + k) < size) : readM l at_ = none := by unfold readM; rw [h]; dsimp only; rw [if_pos hb]
/-- What is said of a name at a place, where so many bytes are said to say it. -/
def headM (l : List UInt8) (at_ size k : Nat) : Option Exp :=
  if size = 0 then some Exp.zero else match saysR (l.drop (at_ + k)) with
    | none => none
    | some (x, k2) => if k2 = size then some x else none
theorem readM_head {l : List UInt8} {at_ size k : Nat} (h : ulebM (l.drop at_) = some (size, k)) (hb : ¬ l.length - (at_ + k) < size) : readM l at_ =
    match headM l at_ size k with
    | none => none
    | some x =>
      match l[at_ + k + size]? with
      | none => none
      | some m =>
        match kidsR l.length m.toNat (l.drop (at_ + k + size + 1)) [] with
        | none => none
        | some ks => some ⟨decide (0 < size), x, ks⟩ := by
  unfold readM headM
  rw [h]; dsimp only; rw [if_neg hb]
  rfl
theorem readM_no {l : List UInt8} {at_ size k : Nat} (h : ulebM (l.drop at_) = some (size, k)) (hb : headM l at_ size k = none) : readM l at_ = none := by
  by_cases hbig : l.length - (at_ + k) < size
  · exact readM_big h hbig
  · rw [readM_head h hbig, hb]
/-- What a node is, behind what is said. -/
theorem readM_rest {l : List UInt8} {at_ size k : Nat} {x : Exp} (h : ulebM (l.drop at_) = some (size, k)) (hb : ¬ l.length - (at_ + k) < size) (hx : headM l at_ size k = some x) (m : Nat) (s : Cu)
    (hm : num1 l ⟨at_ + k + size, false⟩ = (m, s)) : readM l at_ = (restM l m s []).map (fun ks => ⟨decide (0 < size), x, ks⟩) := by
  rw [readM_head h hb, hx]
  dsimp only
  unfold num1 at hm
  rw [if_neg (by simp)] at hm
  dsimp only at hm
  cases hc : l[at_ + k + size]? with
  | none =>
    rw [hc] at hm
    cases hm
    rfl
  | some y =>
    rw [hc] at hm
    cases hm
    unfold restM
    simp only [Bool.false_eq_true, if_false]
    cases kidsR l.length y.toNat (l.drop (at_ + k + size + 1)) [] <;> rfl
theorem num1_lt {l : List UInt8} {s s' : Cu} {m : Nat} (h : num1 l s = (m, s')) : m < 256 := by
  unfold num1 at h
  split at h
  · cases h; omega
  · split at h
    · rename_i x hx
      cases h
      exact x.toNat_lt
    · cases h; omega
end Go.Proofs.YthhjdkcnkdffcaaGreat
