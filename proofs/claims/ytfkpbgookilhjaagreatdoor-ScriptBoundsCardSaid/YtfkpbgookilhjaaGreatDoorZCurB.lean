/- Package cursor: what failed; texts; places. -/
import Derived.Test.YtfkpbgookilhjaaGreatDoorZCurE
import Derived.Test.YtfkpbgookilhjaaGreatDoorZAs
import Derived.Test.YtfkpbgookilhjaaGreatDoorZLebM
import Derived.Test.YtfkpbgookilhjaaGreatDoorShelf
namespace Go.Proofs.YtfkpbgookilhjaaGreatDoor
set_option linter.unusedSimpArgs false
set_option linter.unusedVariables false
open Go.RowKit

/-- The variable of package errors that errors.As reads. -/
def ET (w : World) : Prop := w.cell? ⟨0, 0, none⟩ = some (.iface 202 (.agg #[.pointer (some ⟨2, 126, none⟩)]))

theorem ET.grown {w w' : World} {r : Option Nat} (h : ET w) (g : w.grownBy w' r) (hr : r ≠ some 0) : ET w' := by
  have hlt := lt_of_cellB h
  have hb := g.block 0 hlt (Ne.symm hr)
  unfold ET at h ⊢
  unfold World.cell? at h ⊢
  simpa [hb] using h

theorem ET.heap {w w' : World} (h : ET w) (hh : w'.heap = w.heap) : ET w' := by
  unfold ET at h ⊢
  unfold World.cell? at h ⊢
  simpa [hh] using h

theorem ET.ne {w : World} (h : ET w) {c k : Nat} {l : List UInt8} {big f : Bool} (hc : CurAt w c l k big f) : some c ≠ some 0 := by
  rintro e
  obtain rfl := Option.some.inj e
  obtain ⟨v, hv, hb, hk, hh⟩ := hc
  obtain ⟨p, cap, rfl, _⟩ := id hv
  have := (cur_cells hh).1.1
  rw [h] at this
  cases this

theorem grownBy_below {w w' : World} (h : w.grownBy w' none) : Below w.heap.size w w' := ⟨h.os, h.tape, h.output, h.size, fun k hk => h.block k hk (by simp)⟩

theorem CurAt.lt {w : World} {c k : Nat} {l : List UInt8} {big f : Bool} (h : CurAt w c l k big f) : c < w.heap.size := by
  obtain ⟨v, hv1, hb, hk, hc⟩ := h
  rcases Nat.lt_or_ge c w.heap.size with h | h
  · exact h
  · simp [Array.getElem?_eq_none h] at hc

theorem CurAt.below {w w' : World} {c k : Nat} {l : List UInt8} {big f : Bool} (h : CurAt w c l k big f) (hb : Below w.heap.size w w') : CurAt w' c l k big f := by
  have hlt := h.lt
  obtain ⟨v, hv1, hnb, hk, hc⟩ := h
  exact ⟨v, hv1.below hb, hnb, hk, by rw [hb.block c hlt]; exact hc⟩

set_option maxHeartbeats 400000 in
theorem cur_wrong_ok (c : Nat) (w : World) (hx : w.cell? ⟨c, 3, none⟩ = some (.bool false)) :
    Calls Tryz.prog 75 #[.pointer (some ⟨c, 0, none⟩)] w fun e w' => e = .returned .nilIface ∧ w' = w := by
  go_enter Tryz.func75, Tryz.ntmps75
  go_wp2
  go_ret
  exact ⟨rfl, rfl⟩

set_option maxHeartbeats 400000 in
theorem cur_wrong_bad (c : Nat) (w : World) (k : Nat) (hx : w.cell? ⟨c, 3, none⟩ = some (.bool true)) (h1 : w.cell? ⟨c, 1, none⟩ = some (.int .i64 k)) :
    Calls Tryz.prog 75 #[.pointer (some ⟨c, 0, none⟩)] w fun e w' => e = .returned (.iface 151 (.pointer (some ⟨w.heap.size, 0, none⟩))) ∧ w' = w.alloc (.cells #[.int .i64 k, .int .i64 3] 153) := by
  go_enter Tryz.func75, Tryz.ntmps75
  go_wp2
  go_ret
  exact ⟨rfl, rfl⟩

/-- Err: is 3 of a cursor that failed, 0 else. -/
theorem cur_err (c : Nat) (w : World) (l : List UInt8) (k : Nat) (big f : Bool) (h : CurAt w c l k big f) (hg : ET w) :
    Calls Tryz.prog 35 #[.pointer (some ⟨c, 0, none⟩)] w fun e w' => e = .returned (.int .i64 (if f then 3 else 0)) ∧ Below w.heap.size w w' := by
  obtain ⟨v, hv, hb, hk, hc⟩ := h
  obtain ⟨⟨h0, h1, h2, h3⟩, hf⟩ := cur_cells hc
  cases f with
  | false =>
    go_enter Tryz.func35, Tryz.ntmps35
    go_wp2_with (first
      | (go_at_call 75; refine (cur_wrong_ok c _ h3).mono ?_; rintro e w' ⟨rfl, rfl⟩)
      | (go_at_call 74; refine (code_nil _).mono ?_; rintro e w' ⟨rfl, hgr⟩))
    go_ret
    exact ⟨rfl, grownBy_below hgr⟩
  | true =>
    have hg1 := hg.grown (World.grownBy_alloc w (.cells #[.int .i64 k, .int .i64 3] 153) none) (by simp)
    have hc := code_wrong w.heap.size 3 (w.alloc (.cells #[.int .i64 k, .int .i64 3] 153)) hg1 (by simp)
    have hgr2 := fun w' (x : (w.alloc (.cells #[.int .i64 k, .int .i64 3] 153)).grownBy w' none) => grownBy_tr (World.grownBy_alloc w _ none) x
    go_enter Tryz.func35, Tryz.ntmps35
    go_wp2_with (first
      | (go_at_call 75; refine (cur_wrong_bad c _ k h3 h1).mono ?_; rintro e w' ⟨rfl, rfl⟩)
      | (go_at_call 74; refine hc.mono ?_; rintro e w' ⟨rfl, hgr⟩))
    go_ret
    exact ⟨rfl, grownBy_below (hgr2 _ hgr)⟩

set_option maxHeartbeats 400000 in
theorem cur_at (c : Nat) (w : World) (k : Nat) (h1 : w.cell? ⟨c, 1, none⟩ = some (.int .i64 k)) :
    Calls Tryz.prog 304 #[.pointer (some ⟨c, 0, none⟩)] w fun e w' => e = .returned (.int .i64 k) ∧ w' = w := by
  go_enter Tryz.func304, Tryz.ntmps304
  go_wp2
  go_ret
  exact ⟨rfl, rfl⟩

/-- A cursor in the state s. -/
def CuAt (w : World) (c : Nat) (l : List UInt8) (s : Cu) : Prop := CurAt w c l s.at_ false s.bad

/-- A byte at a cursor's place. -/
def num1 (l : List UInt8) (s : Cu) : Nat × Cu :=
  if s.bad then (0, s)
  else match l[s.at_]? with
    | some x => (x.toNat, ⟨s.at_ + 1, false⟩)
    | none => (0, ⟨s.at_, true⟩)

set_option maxHeartbeats 1000000 in
theorem cur_num1_bad (c : Nat) (w : World) (l : List UInt8) (k : Nat) (h : CurAt w c l k false true) :
    Calls Tryz.prog 36 #[.pointer (some ⟨c, 0, none⟩), .int .i64 1] w fun e w' => e = .returned (.int .u64 0) ∧ w' = w := by
  obtain ⟨v, hv, hb, hk, hc⟩ := h
  obtain ⟨⟨h0, h1, h2, h3⟩, hf⟩ := cur_cells hc
  go_enter Tryz.func36, Tryz.ntmps36
  go_wp2_with fail
  refine (cur_well_t c _ true (by exact h3)).mono ?_
  rintro e w' ⟨rfl, rfl⟩
  go_wp2
  go_ret
  exact ⟨rfl, rfl⟩

set_option maxHeartbeats 1000000 in
theorem cur_num1_out (c : Nat) (w : World) (l : List UInt8) (h : CurAt w c l l.length false false) (hl : l.length ≤ 140737488355328) :
    Calls Tryz.prog 36 #[.pointer (some ⟨c, 0, none⟩), .int .i64 1] w fun e w' => e = .returned (.int .u64 0) ∧ CurAt w' c l l.length false true ∧ w.grownBy w' (some c) := by
  have H := hid h
  obtain ⟨v, hv, hb, hk, hc⟩ := h
  obtain ⟨⟨h0, h1, h2, h3⟩, hf⟩ := cur_cells hc
  go_enter Tryz.func36, Tryz.ntmps36
  go_wp2_with fail
  refine (cur_well_t c _ false (by exact h3)).mono ?_
  rintro e w' ⟨rfl, rfl⟩
  go_wp2_with fail
  refine (cur_take_out c _ l l.length 1 false false H.out hl (by right; omega)).mono ?_
  rintro e w1 ⟨rfl, hc1, hg1⟩
  have H1 := hid (And.intro hc1 hg1)
  clear hc1 hg1
  go_wp2
  refine wp_loop_rounds 1 ?_
  rw [rounds_succ]
  go_wp2
  go_ret
  exact ⟨rfl, H1.out.1, H1.out.2⟩

theorem cur_num1 (c : Nat) (w : World) (l : List UInt8) (s : Cu) (h : CuAt w c l s) (hl : l.length ≤ 140737488355328) :
    Calls Tryz.prog 36 #[.pointer (some ⟨c, 0, none⟩), .int .i64 1] w fun e w' =>
      ∃ n s', num1 l s = (n, s') ∧ e = .returned (.int .u64 (n : Nat)) ∧ CuAt w' c l s' ∧ w.grownBy w' (some c) := by
  obtain ⟨k, f⟩ := s
  have hk : k ≤ l.length := by obtain ⟨v, hv, hb, hk, hc⟩ := h; exact hk
  cases f with
  | true =>
    refine (cur_num1_bad c w l k h).mono ?_
    rintro e w' ⟨rfl, rfl⟩
    exact ⟨_, _, rfl, rfl, h, grownBy_refl _ _⟩
  | false =>
    by_cases hlt : k < l.length
    · refine (cur_number_ok c w l k 1 1 (.inl rfl) rfl h (by omega)).mono ?_
      rintro e w' ⟨rfl, h1, h2⟩
      have hx : l[k]? = some (l[k]) := List.getElem?_eq_getElem hlt
      refine ⟨l[k].toNat, ⟨k + 1, false⟩, by simp [num1, hx], ?_, h1, h2⟩
      congr 2
      have : (l.drop k).take 1 = [l[k]] := by
        rw [List.drop_eq_getElem_cons hlt]; rfl
      rw [this]
      simp [leNat]
    · obtain rfl : k = l.length := by omega
      refine (cur_num1_out c w l h hl).mono ?_
      rintro e w' ⟨rfl, h1, h2⟩
      exact ⟨0, ⟨l.length, true⟩, by simp [num1], rfl, h1, h2⟩

end Go.Proofs.YtfkpbgookilhjaaGreatDoor

namespace Go.Proofs.YtfkpbgookilhjaaGreatDoor
set_option linter.unusedSimpArgs false
set_option linter.unusedVariables false
open Go.RowKit

set_option maxHeartbeats 400000 in
/-- bytes.Clone, in these proofs' words. -/
theorem clone_any (w : World) (p : Option Addr) (n cap : Nat) (l : List UInt8) (h : BS w (.slice p n cap) l) :
    Calls Tryz.prog 72 #[.slice p n cap] w fun e w' => ∃ p' cap', e = .returned (.slice p' n cap') ∧ BS w' (.slice p' n cap') l ∧ (∀ k, inBlk (.slice p' n cap') k → w.heap.size ≤ k) ∧ Below w.heap.size w w' := by
  have hl := h.len
  have hc := h.cap
  cases p with
  | none =>
    refine (Tryz.bytes_Clone_nil n cap w).mono ?_
    rintro e w' ⟨rfl, rfl⟩
    have hn : n = 0 := by
      rcases Nat.eq_zero_or_pos n with hn | hn
      · exact hn
      · obtain ⟨b, off, e, _⟩ := h.at hn; cases e
    subst hn
    obtain rfl : l = [] := List.eq_nil_of_length_eq_zero hl
    exact ⟨none, 0, rfl, ⟨none, 0, rfl, Nat.le_refl _, ⟨Nat.zero_le _, Nat.zero_le _⟩, fun h => absurd rfl h⟩, fun k hk => hk.elim, Below.refl _ _⟩
  | some a =>
    refine (Tryz.bytes_Clone_at a n cap (nums l) w (by rw [nums_length, hl]) hc.2.2 h.cellsAt).mono ?_
    rintro e w' ⟨v', rfl, hown, _, hb⟩
    rw [← u8s_eq] at hown
    obtain ⟨p', cap', rfl, hbs, hblk⟩ := BS.of_owns hown hc.2.2
    exact ⟨p', cap', rfl, hbs, hblk, hb⟩

set_option maxHeartbeats 400000 in
theorem cur_new (w : World) (p : Option Addr) (n cap : Nat) (l : List UInt8) (big : Bool) (h : BS w (.slice p n cap) l) :
    Calls Tryz.prog 33 #[.slice p n cap, .bool big] w fun e w' => ∃ c, e = .returned (.pointer (some ⟨c, 0, none⟩)) ∧ w.heap.size ≤ c ∧ CurAt w' c l 0 big false ∧ Below w.heap.size w w' := by
  have H := hid h
  clear h
  go_enter Tryz.func33, Tryz.ntmps33
  go_wp2_with fail
  refine (clone_any w p n cap l H.out).mono ?_
  rintro e w1 ⟨p', cap', rfl, hbs, hblk, hb⟩
  have hsz := hb.size
  have H1 := hid (And.intro hbs (And.intro hblk hb))
  clear hbs hblk hb
  go_wp2
  go_ret
  obtain ⟨hbs, hblk, hb⟩ := H1.out
  refine ⟨w1.heap.size, rfl, hsz, ⟨_, hbs.below ((Below.refl _ _).alloc (Nat.le_refl _) _), ?_, Nat.zero_le _, heap_alloc_new _ _⟩, hb.alloc hsz _⟩
  intro kb hk
  obtain ⟨p'', cap'', he, g1, g2, g3⟩ := hbs
  have hpos : 0 < n := by
    cases p' with
    | none => exact hk.elim
    | some a => exact hk.1
  cases he
  obtain ⟨b, off, rfl, hc⟩ := g3 (by intro e; rw [e] at hpos; exact absurd hpos (by simp))
  have h0 := hc 0 _ (List.getElem?_eq_getElem hpos)
  have := World.block_lt_of_cell? w1 _ h0
  have e : b = kb := hk.2
  simp at this; omega

set_option maxHeartbeats 400000 in
theorem cur_seek_ok (c : Nat) (w : World) (l : List UInt8) (k k' : Nat) (n : Int) (big : Bool) (h : CurAt w c l k big false) (hn : n = k') (hk' : k' ≤ l.length) :
    Calls Tryz.prog 299 #[.pointer (some ⟨c, 0, none⟩), .int .i64 n] w fun e w' => e = .returned (.tuple #[]) ∧ CurAt w' c l k' big false ∧ w.grownBy w' (some c) := by
  subst hn
  have hmv := h.moved k' hk'
  obtain ⟨v, hv, hb, hk, hc⟩ := h
  obtain ⟨p, cap, rfl, g1, g2, g3⟩ := id hv
  obtain ⟨⟨h0, h1, h2, h3⟩, hf⟩ := cur_cells hc
  have hf1 := hf 1
  have H := hid (And.intro hmv (grownBy_setCell w c 1 (.int .i64 (k' : Int))))
  have hle : decide ((k' : Int) ≤ (l.length : Int)) = true := by simp; omega
  have hle0 : decide ((0 : Int) ≤ (k' : Int)) = true := by simp
  clear hmv hv hb hc hf g3
  go_enter Tryz.func299, Tryz.ntmps299
  go_wp2_with fail
  refine (cur_well_t c _ false (by exact h3)).mono ?_
  rintro e w' ⟨rfl, rfl⟩
  go_wp2
  go_end0
  exact ⟨rfl, H.out.1.heap rfl, grownBy_heap H.out.2 rfl rfl rfl rfl⟩

set_option maxHeartbeats 400000 in
theorem cur_seek_bad (c : Nat) (w : World) (l : List UInt8) (k k' : Nat) (n : Int) (big : Bool) (h : CurAt w c l k big true) (hn : n = k') (hk' : k' ≤ l.length) :
    Calls Tryz.prog 299 #[.pointer (some ⟨c, 0, none⟩), .int .i64 n] w fun e w' => e = .returned (.tuple #[]) ∧ w' = w := by
  subst hn
  obtain ⟨v, hv, hb, hk, hc⟩ := h
  obtain ⟨p, cap, rfl, g1, g2, g3⟩ := id hv
  obtain ⟨⟨h0, h1, h2, h3⟩, hf⟩ := cur_cells hc
  have hle : decide ((k' : Int) ≤ (l.length : Int)) = true := by simp; omega
  have hle0 : decide ((0 : Int) ≤ (k' : Int)) = true := by simp
  clear hv hb hc hf g3
  go_enter Tryz.func299, Tryz.ntmps299
  go_wp2_with fail
  refine (cur_well_t c _ true (by exact h3)).mono ?_
  rintro e w' ⟨rfl, rfl⟩
  go_wp2
  go_end0
  exact ⟨rfl, rfl⟩

end Go.Proofs.YtfkpbgookilhjaaGreatDoor
