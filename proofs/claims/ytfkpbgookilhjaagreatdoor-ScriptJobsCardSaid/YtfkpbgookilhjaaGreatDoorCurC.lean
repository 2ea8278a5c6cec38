/- Package cursor: a new one; places; texts. -/
import Derived.Test.YtfkpbgookilhjaaGreatDoorCurB
import Derived.Test.YtfkpbgookilhjaaGreatDoorShelf
namespace Go.Proofs.YtfkpbgookilhjaaGreatDoor
set_option linter.unusedSimpArgs false
set_option linter.unusedVariables false
open Go.RowKit

set_option maxHeartbeats 400000 in
/-- bytes.Clone, in these proofs' words. -/
theorem clone_any (w : World) (p : Option Addr) (n cap : Nat) (l : List UInt8) (h : BS w (.slice p n cap) l) :
    Calls Tryz.prog 72 #[.slice p n cap] w fun e w' => ∃ p' cap', e = .returned (.slice p' n cap') ∧ BS w' (.slice p' n cap') l ∧ (∀ k, inBlk (.slice p' n cap') k → w.heap.size ≤ k) ∧ Below w.heap.size w w' := by
  have hl := h.len
  have hc := h.cap
  cases p with
  | none =>
    refine (Tryz.bytes_Clone_nil n cap w).mono ?_
    rintro e w' ⟨rfl, rfl⟩
    have hn : n = 0 := by
      rcases Nat.eq_zero_or_pos n with hn | hn
      · exact hn
      · obtain ⟨b, off, e, _⟩ := h.at hn; cases e
    subst hn
    obtain rfl : l = [] := List.eq_nil_of_length_eq_zero hl
    exact ⟨none, 0, rfl, ⟨none, 0, rfl, Nat.le_refl _, ⟨Nat.zero_le _, Nat.zero_le _⟩, fun h => absurd rfl h⟩, fun k hk => hk.elim, Below.refl _ _⟩
  | some a =>
    refine (Tryz.bytes_Clone_at a n cap (nums l) w (by rw [nums_length, hl]) hc.2.2 h.cellsAt).mono ?_
    rintro e w' ⟨v', rfl, hown, _, hb⟩
    rw [← u8s_eq] at hown
    obtain ⟨p', cap', rfl, hbs, hblk⟩ := BS.of_owns hown hc.2.2
    exact ⟨p', cap', rfl, hbs, hblk, hb⟩

set_option maxHeartbeats 400000 in
theorem cur_new (w : World) (p : Option Addr) (n cap : Nat) (l : List UInt8) (big : Bool) (h : BS w (.slice p n cap) l) :
    Calls Tryz.prog 33 #[.slice p n cap, .bool big] w fun e w' => ∃ c, e = .returned (.pointer (some ⟨c, 0, none⟩)) ∧ w.heap.size ≤ c ∧ CurAt w' c l 0 big false ∧ Below w.heap.size w w' := by
  have H := hid h
  clear h
  go_enter Tryz.func33, Tryz.ntmps33
  go_wp2_with fail
  refine (clone_any w p n cap l H.out).mono ?_
  rintro e w1 ⟨p', cap', rfl, hbs, hblk, hb⟩
  have hsz := hb.size
  have H1 := hid (And.intro hbs (And.intro hblk hb))
  clear hbs hblk hb
  go_wp2
  go_ret
  obtain ⟨hbs, hblk, hb⟩ := H1.out
  refine ⟨w1.heap.size, rfl, hsz, ⟨_, hbs.below ((Below.refl _ _).alloc (Nat.le_refl _) _), ?_, Nat.zero_le _, heap_alloc_new _ _⟩, hb.alloc hsz _⟩
  intro kb hk
  obtain ⟨p'', cap'', he, g1, g2, g3⟩ := hbs
  have hpos : 0 < n := by
    cases p' with
    | none => exact hk.elim
    | some a => exact hk.1
  cases he
  obtain ⟨b, off, rfl, hc⟩ := g3 (by intro e; rw [e] at hpos; exact absurd hpos (by simp))
  have h0 := hc 0 _ (List.getElem?_eq_getElem hpos)
  have := World.block_lt_of_cell? w1 _ h0
  have e : b = kb := hk.2
  simp at this; omega

set_option maxHeartbeats 400000 in
theorem cur_seek_ok (c : Nat) (w : World) (l : List UInt8) (k k' : Nat) (n : Int) (big : Bool) (h : CurAt w c l k big false) (hn : n = k') (hk' : k' ≤ l.length) :
    Calls Tryz.prog 299 #[.pointer (some ⟨c, 0, none⟩), .int .i64 n] w fun e w' => e = .returned (.tuple #[]) ∧ CurAt w' c l k' big false ∧ w.grownBy w' (some c) := by
  subst hn
  have hmv := h.moved k' hk'
  obtain ⟨v, hv, hb, hk, hc⟩ := h
  obtain ⟨p, cap, rfl, g1, g2, g3⟩ := id hv
  obtain ⟨⟨h0, h1, h2, h3⟩, hf⟩ := cur_cells hc
  have hf1 := hf 1
  have H := hid (And.intro hmv (grownBy_setCell w c 1 (.int .i64 (k' : Int))))
  have hle : decide ((k' : Int) ≤ (l.length : Int)) = true := by simp; omega
  have hle0 : decide ((0 : Int) ≤ (k' : Int)) = true := by simp
  clear hmv hv hb hc hf g3
  go_enter Tryz.func299, Tryz.ntmps299
  go_wp2_with fail
  refine (cur_well_t c _ false (by exact h3)).mono ?_
  rintro e w' ⟨rfl, rfl⟩
  go_wp2
  go_end0
  exact ⟨rfl, H.out.1.heap rfl, grownBy_heap H.out.2 rfl rfl rfl rfl⟩

set_option maxHeartbeats 400000 in
theorem cur_seek_bad (c : Nat) (w : World) (l : List UInt8) (k k' : Nat) (n : Int) (big : Bool) (h : CurAt w c l k big true) (hn : n = k') (hk' : k' ≤ l.length) :
    Calls Tryz.prog 299 #[.pointer (some ⟨c, 0, none⟩), .int .i64 n] w fun e w' => e = .returned (.tuple #[]) ∧ w' = w := by
  subst hn
  obtain ⟨v, hv, hb, hk, hc⟩ := h
  obtain ⟨p, cap, rfl, g1, g2, g3⟩ := id hv
  obtain ⟨⟨h0, h1, h2, h3⟩, hf⟩ := cur_cells hc
  have hle : decide ((k' : Int) ≤ (l.length : Int)) = true := by simp; omega
  have hle0 : decide ((0 : Int) ≤ (k' : Int)) = true := by simp
  clear hv hb hc hf g3
  go_enter Tryz.func299, Tryz.ntmps299
  go_wp2_with fail
  refine (cur_well_t c _ true (by exact h3)).mono ?_
  rintro e w' ⟨rfl, rfl⟩
  go_wp2
  go_end0
  exact ⟨rfl, rfl⟩

end Go.Proofs.YtfkpbgookilhjaaGreatDoor
