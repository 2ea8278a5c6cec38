/- The walks of package cursor. -/
import Derived.Test.YthhjdkcnkdffcaaGreatRows
import Derived.Test.YthhjdkcnkdffcaaGreatZPlain
import Derived.Test.YthhjdkcnkdffcaaGreatShelf
import Derived.Maps.Own
import Derived.Maps.OwnOps
import Derived.Maps.OwnSet
import Derived.Maps.Views
namespace Go.Proofs.YthhjdkcnkdffcaaGreat.Nl
set_option linter.unusedSimpArgs false
set_option linter.unusedVariables false
open Go.RowKit

/-- A cursor over the bytes l stands in the block c. -/
def CurAt (w : World) (c : Nat) (l : List UInt8) (at_ : Nat) (big failed : Bool) : Prop :=
  ∃ v, BS w v l ∧ ¬ inBlk v c ∧ at_ ≤ l.length ∧ w.heap[c]? = some (.cells #[v, .int .i64 at_, .bool big, .bool failed] 201 (0, 0))

theorem sz_u8 (w : World) : (sizeOf (Tryz.prog.elem 27)).run Tryz.prog w = .ok 1 w := by kernel_rfl
theorem un_bs : Tryz.prog.underlying 27 = some (.slice (Tryz.prog.elem 27)) := by kernel_rfl

set_option maxHeartbeats 400000 in
set_option maxRecDepth 8000 in
theorem cur_fail (c : Nat) (w : World) (h0 : w.frozen? ⟨c, 3, none⟩ = false) (x : Value) (hx : w.cell? ⟨c, 3, none⟩ = some x) :
    Calls Tryz.prog 150 #[.pointer (some ⟨c, 0, none⟩)] w fun e w' => e = .returned (.tuple #[]) ∧ w' = w.setCell ⟨c, 3, none⟩ (.bool true) := by
  go_enter Tryz.func150, Tryz.ntmps150
  go_wp2
  go_end0
  exact ⟨rfl, rfl⟩

set_option maxHeartbeats 400000 in
set_option maxRecDepth 8000 in
theorem cur_well_t (c : Nat) (w : World) (f : Bool) (hx : w.cell? ⟨c, 3, none⟩ = some (.bool f)) :
    Calls Tryz.prog 132 #[.pointer (some ⟨c, 0, none⟩), .bool true] w fun e w' => e = .returned (.bool (!f)) ∧ w = w' := by
  go_enter Tryz.func132, Tryz.ntmps132
  go_wp2
  go_ret
  exact ⟨rfl, rfl⟩

set_option maxHeartbeats 400000 in
set_option maxRecDepth 8000 in
theorem cur_well_f (c : Nat) (w : World) (h0 : w.frozen? ⟨c, 3, none⟩ = false) (x : Value) (hx : w.cell? ⟨c, 3, none⟩ = some x) :
    Calls Tryz.prog 132 #[.pointer (some ⟨c, 0, none⟩), .bool false] w fun e w' => e = .returned (.bool false) ∧ w' = w.setCell ⟨c, 3, none⟩ (.bool true) := by
  have hs : (w.setCell ⟨c, 3, none⟩ (.bool true)).cell? ⟨c, 3, none⟩ = some (.bool true) := World.cell?_setCell_same _ _ _ hx
  go_enter Tryz.func132, Tryz.ntmps132
  go_wp2_with (go_at_call 150; refine (cur_fail c _ h0 x hx).mono ?_; rintro e w' ⟨rfl, rfl⟩)
  go_ret
  exact ⟨rfl, rfl⟩

set_option maxHeartbeats 400000 in
set_option maxRecDepth 8000 in
theorem cur_left (c : Nat) (w : World) (p : Option Addr) (n cap k : Nat) (hk : k ≤ n) (hn : n ≤ 140737488355328) (h0 : w.cell? ⟨c, 0, none⟩ = some (.slice p n cap)) (h1 : w.cell? ⟨c, 1, none⟩ = some (.int .i64 k)) :
    Calls Tryz.prog 122 #[.pointer (some ⟨c, 0, none⟩)] w fun e w' => e = .returned (.int .i64 (n - k : Int)) ∧ ∃ q, w' = w.drewN q := by
  have hw : IntKind.i64.wrap ((n : Int) - k) = (n : Int) - k := IntWalk.i64_in _ (by omega)
  go_enter Tryz.func122, Tryz.ntmps122
  go_wp2
  go_quiet (fail)
  go_wp2
  go_ret
  exact ⟨rfl, _, rfl⟩

theorem cur_cells {w : World} {c : Nat} {v0 v1 v2 v3 : Value} {t : TypeId} (h : w.heap[c]? = some (.cells #[v0, v1, v2, v3] t (0, 0))) :
    (w.cell? ⟨c, 0, none⟩ = some v0 ∧ w.cell? ⟨c, 1, none⟩ = some v1 ∧ w.cell? ⟨c, 2, none⟩ = some v2 ∧ w.cell? ⟨c, 3, none⟩ = some v3) ∧ ∀ i, w.frozen? ⟨c, i, none⟩ = false :=
  ⟨⟨cell_of_row w c 0 _ t _ h, cell_of_row w c 1 _ t _ h, cell_of_row w c 2 _ t _ h, cell_of_row w c 3 _ t _ h⟩, fun i => frozen_of_row w c i _ t h⟩

theorem grownBy_setCell (w : World) (c i : Nat) (u : Value) : w.grownBy (w.setCell ⟨c, i, none⟩ u) (some c) :=
  ⟨rfl, rfl, rfl, by simp [World.setCell], fun k _ hk => heap_setCell_other w _ k u (fun e => hk (by simp at e; rw [e]))⟩

theorem grownBy_heap {w w1 w2 : World} {r : Option Nat} (h : w.grownBy w1 r) (hh : w2.heap = w1.heap) (ho : w2.os = w1.os) (ht : w2.tape = w1.tape) (hu : w2.output = w1.output) : w.grownBy w2 r :=
  ⟨ho.trans h.os, ht.trans h.tape, hu.trans h.output, by rw [hh]; exact h.size, fun k hk hr => by rw [hh]; exact h.block k hk hr⟩

theorem grownBy_drewN {w w1 : World} {r : Option Nat} (h : w.grownBy w1 r) (q : Nat) : w.grownBy (w1.drewN q) r := grownBy_heap h rfl rfl rfl rfl

theorem CurAt.failed {w : World} {c : Nat} {l : List UInt8} {k : Nat} {big f : Bool} (h : CurAt w c l k big f) : CurAt (w.setCell ⟨c, 3, none⟩ (.bool true)) c l k big true := by
  obtain ⟨v, hv, hb, hk, hc⟩ := h
  exact ⟨v, hv.grown (grownBy_setCell _ _ _ _) hb, hb, hk, by rw [heap_setCell_same _ _ _ _ _ _ hc]; rfl⟩

theorem CurAt.moved {w : World} {c : Nat} {l : List UInt8} {k : Nat} {big f : Bool} (h : CurAt w c l k big f) (k' : Nat) (hk' : k' ≤ l.length) : CurAt (w.setCell ⟨c, 1, none⟩ (.int .i64 k')) c l k' big f := by
  obtain ⟨v, hv, hb, hk, hc⟩ := h
  exact ⟨v, hv.grown (grownBy_setCell _ _ _ _) hb, hb, hk', by rw [heap_setCell_same _ _ _ _ _ _ hc]; rfl⟩

theorem CurAt.heap {w w' : World} {c : Nat} {l : List UInt8} {k : Nat} {big f : Bool} (h : CurAt w c l k big f) (hh : w'.heap = w.heap) : CurAt w' c l k big f := by
  obtain ⟨v, hv, hb, hk, hc⟩ := h
  exact ⟨v, hv.heap hh, hb, hk, by rw [hh]; exact hc⟩

set_option maxHeartbeats 400000 in
set_option maxRecDepth 8000 in
theorem cur_take_ok (c : Nat) (w : World) (l : List UInt8) (k n : Nat) (m : Int) (hm : m = n) (big : Bool) (h : CurAt w c l k big false) (hn : k + n ≤ l.length) :
    Calls Tryz.prog 137 #[.pointer (some ⟨c, 0, none⟩), .int .i64 m] w fun e w' =>
      ∃ p' c', e = .returned (.slice p' n c') ∧ BS w' (.slice p' n c') ((l.drop k).take n) ∧ ¬ inBlk (.slice p' n c') c ∧ CurAt w' c l (k + n) big false ∧ w.grownBy w' (some c) := by
  subst hm
  have hmv := h.moved (k + n) hn
  obtain ⟨v, hv, hb, hk, hc⟩ := h
  have hg := grownBy_setCell w c 1 (.int .i64 ((k + n : Nat) : Int))
  have hv2 := hv.grown hg hb
  obtain ⟨p, cap, rfl, g1, g2, g3⟩ := id hv
  obtain ⟨⟨h0, h1, h2, h3⟩, hf⟩ := cur_cells hc
  have hsub := sub_bs hv2 (lo := k) (hi := k + n) (m := k + n) (by omega) hn (by omega) (by omega)
  have hblk : ¬ inBlk (.slice (subA p k (k + n)) (k + n - k) (k + n - k)) c := fun hh => hb (sub_blk (by omega) hn hh)
  have hsl := fun (w : World) => run_sub3 (P := Tryz.prog) (w := w) (t := 27) p l.length cap un_bs (sz_u8 w) .i64 .i64 .i64 k (k + n) (k + n) (by omega) (by omega) (by omega) (by omega)
  simp only [show ((k : Int) + (n : Int)).toNat = k + n from by omega, Int.toNat_natCast] at hsl
  have hw1 : IntKind.i64.wrap ((k : Int) + n) = (k : Int) + n := IntWalk.i64_in _ (by omega)
  have hw2 : IntKind.i64.wrap (k : Int) = (k : Int) := IntWalk.i64_in _ (by omega)
  have hw3 : IntKind.i64.wrap ((k : Int) + n - n) = (k : Int) := by rw [show (k : Int) + n - n = k from by omega]; exact hw2
  have hc0 : (w.setCell ⟨c, 1, none⟩ (.int .i64 ((k : Int) + n))).cell? ⟨c, 0, none⟩ = some (.slice p l.length cap) := (World.cell?_setCell_other _ _ _ _ (by simp)).trans h0
  have hc1 : (w.setCell ⟨c, 1, none⟩ (.int .i64 ((k : Int) + n))).cell? ⟨c, 1, none⟩ = some (.int .i64 ((k : Int) + n)) := World.cell?_setCell_same _ _ _ h1
  have H := hid (And.intro hmv (And.intro hsub (And.intro hblk hg)))
  have hf1 := hf 1
  have hle : decide ((n : Int) ≤ (l.length : Int) - k) = true := by simp; omega
  clear hmv hsub hblk hg hv hv2 hc hb hf g3
  go_enter Tryz.func137, Tryz.ntmps137
  go_wp2_with (first
    | (go_at_call 122; refine (cur_left c _ p l.length cap k hk (by omega) h0 h1).mono ?_; rintro e w' ⟨rfl, q, rfl⟩)
    | (go_at_call 132; refine (cur_well_t c _ false (by exact h3)).mono ?_; rintro e w' ⟨rfl, rfl⟩))
  go_quiet (fail)
  go_wp2
  go_ret
  obtain ⟨hmv, hsub, hblk, hg⟩ := H.out
  rw [Nat.add_sub_cancel_left] at hsub hblk
  rw [Int.natCast_add] at hmv hsub hg
  exact ⟨_, _, rfl, hsub.heap rfl, hblk, hmv.heap rfl, grownBy_heap hg rfl rfl rfl rfl⟩

theorem grownBy_refl (w : World) (r : Option Nat) : w.grownBy w r := ⟨rfl, rfl, rfl, Nat.le_refl _, fun _ _ _ => rfl⟩

set_option maxHeartbeats 400000 in
set_option maxRecDepth 8000 in
/-- Out of bounds: nothing is taken. -/
theorem cur_take_out (c : Nat) (w : World) (l : List UInt8) (k : Nat) (n : Int) (big f : Bool) (h : CurAt w c l k big f) (hl : l.length ≤ 140737488355328) (hn : n < 0 ∨ (l.length : Int) - k < n) :
    Calls Tryz.prog 137 #[.pointer (some ⟨c, 0, none⟩), .int .i64 n] w fun e w' =>
      e = .returned (.slice none 0 0) ∧ CurAt w' c l k big true ∧ w.grownBy w' (some c) := by
  have hfl := h.failed
  obtain ⟨v, hv, hb, hk, hc⟩ := h
  obtain ⟨p, cap, rfl, g1, g2, g3⟩ := id hv
  obtain ⟨⟨h0, h1, h2, h3⟩, hf⟩ := cur_cells hc
  have hf3 := hf 3
  have H := hid (And.intro hfl (grownBy_setCell w c 3 (.bool true)))
  clear hfl hv hc hb hf g3
  by_cases hn0 : n < 0
  · have hneg : decide (0 ≤ n) = false := by simp; omega
    go_enter Tryz.func137, Tryz.ntmps137
    go_wp2_with ((go_at_call 132; refine (cur_well_f c _ hf3 _ h3).mono ?_; rintro e w' ⟨rfl, rfl⟩))
    go_ret
    obtain ⟨hfl, hg⟩ := H.out
    exact ⟨rfl, hfl, hg⟩
  · have hle : decide (n ≤ (l.length : Int) - k) = false := by simp; omega
    go_enter Tryz.func137, Tryz.ntmps137
    go_wp2_with (first
      | (go_at_call 122; refine (cur_left c _ p l.length cap k hk (by omega) h0 h1).mono ?_; rintro e w' ⟨rfl, q, rfl⟩)
      | (go_at_call 132; refine (cur_well_f c _ (by exact hf3) _ (by exact h3)).mono ?_; rintro e w' ⟨rfl, rfl⟩))
    go_ret
    obtain ⟨hfl, hg⟩ := H.out
    exact ⟨rfl, hfl.heap rfl, grownBy_heap hg rfl rfl rfl rfl⟩



set_option maxHeartbeats 1000000 in
set_option maxRecDepth 8000 in
theorem cur_number_ok (c : Nat) (w : World) (l : List UInt8) (k n : Nat) (m : Int) (hs : m = 1 ∨ m = 2 ∨ m = 4 ∨ m = 8) (hm : m = n) (h : CurAt w c l k false false) (hn : k + n ≤ l.length) :
    Calls Tryz.prog 125 #[.pointer (some ⟨c, 0, none⟩), .int .i64 m] w fun e w' =>
      e = .returned (.int .u64 (leNat ((l.drop k).take n))) ∧ CurAt w' c l (k + n) false false ∧ w.grownBy w' (some c) := by
  have h' := h
  obtain ⟨v, hv, hb, hk, hc⟩ := h
  obtain ⟨⟨h0, h1, h2, h3⟩, hf⟩ := cur_cells hc
  have hn1 : 1 ≤ n := by omega
  have hn8 : n ≤ 8 := by omega
  have H := hid (And.intro h' hn)
  have Hm := hid hm
  clear h' hv hb hc hn hf hk h0 h1 h2 hm
  rcases hs with rfl | rfl | rfl | rfl
  all_goals
    go_enter Tryz.func125, Tryz.ntmps125
    go_wp2_with fail
    refine (cur_well_t c _ false (by exact h3)).mono ?_
    rintro e w' ⟨rfl, rfl⟩
    go_wp2_with fail
    refine (cur_take_ok c _ l k n _ Hm.out false H.out.1 H.out.2).mono ?_
    rintro e w1 ⟨p1, cap1, rfl, hb1, hnb, hc1, hg1⟩
    clear h3
    obtain ⟨L, hL⟩ : ∃ L, L = (l.drop k).take n := ⟨_, rfl⟩
    rw [← hL] at hb1
    have hLn := hb1.len
    obtain ⟨b, off, rfl, hcell⟩ := hb1.at (by omega)
    obtain ⟨v', hv', hnb', hk', hcc⟩ := id hc1
    obtain ⟨⟨-, -, q2, -⟩, -⟩ := cur_cells hcc
    have H1 := hid (And.intro hL (And.intro hLn (And.intro hc1 (And.intro hg1 hcell))))
    clear hL hLn hc1 hg1 hcell hb1 hcc hv' hnb' hnb hk'
    go_wp2_with fail
    go_loop [4, 28] (fun a i => ∃ j : Nat, j ≤ n ∧ i = .int .i64 j ∧ a = .int .u64 (leNat (L.take j))) (fun _ i => n - (intOf i).toNat)
    case atStart => exact ⟨0, Nat.zero_le _, rfl, rfl⟩
    case round =>
      obtain ⟨j, hj, rfl, rfl⟩ := hrel
      by_cases hlt : j < n
      · obtain ⟨x, hx⟩ : ∃ x, L[j]? = some x := ⟨L[j]'(by rw [H1.out.2.1]; exact hlt), List.getElem?_eq_getElem _⟩
        have hcl := H1.out.2.2.2.2 j x hx
        have Hx := hid hx
        clear hx
        go_wp2
        go_round
        case rel =>
          have hlen : (L.take j).length = j := by rw [List.length_take, H1.out.2.1]; omega
          have hlt8 := leNat_lt (L.take j)
          rw [hlen] at hlt8
          exact ⟨j + 1, by omega, by go_num, by rw [or_shl _ _ j (by omega) hlt8 x.toNat_lt, take_snoc Hx.out, leNat_snoc, hlen]⟩
        case measure => simp [intOf]; omega
      · go_wp2
        go_ret
        obtain ⟨hL, hLn, hc1, hg1, hcell⟩ := H1.out
        obtain rfl : j = n := by omega
        refine ⟨?_, hc1, hg1⟩
        show Ending.returned (Value.int IntKind.u64 ↑(leNat (List.take j L))) = _
        rw [← hL, List.take_of_length_le (by omega)]

end Go.Proofs.YthhjdkcnkdffcaaGreat.Nl

namespace Go.Proofs.YthhjdkcnkdffcaaGreat.Nl
set_option linter.unusedSimpArgs false
set_option linter.unusedVariables false
open Go.RowKit

set_option maxHeartbeats 400000 in
set_option maxRecDepth 8000 in
/-- bytes.Clone, in these proofs' words. -/
theorem clone_any (w : World) (p : Option Addr) (n cap : Nat) (l : List UInt8) (h : BS w (.slice p n cap) l) :
    Calls Tryz.prog 117 #[.slice p n cap] w fun e w' => ∃ p' cap', e = .returned (.slice p' n cap') ∧ BS w' (.slice p' n cap') l ∧ (∀ k, inBlk (.slice p' n cap') k → w.heap.size ≤ k) ∧ Below w.heap.size w w' := by
  have hl := h.len
  have hc := h.cap
  cases p with
  | none =>
    refine (Tryz.bytes_Clone_nil n cap w).mono ?_
    rintro e w' ⟨rfl, rfl⟩
    have hn : n = 0 := by
      rcases Nat.eq_zero_or_pos n with hn | hn
      · exact hn
      · obtain ⟨b, off, e, _⟩ := h.at hn; cases e
    subst hn
    obtain rfl : l = [] := List.eq_nil_of_length_eq_zero hl
    exact ⟨none, 0, rfl, ⟨none, 0, rfl, Nat.le_refl _, ⟨Nat.zero_le _, Nat.zero_le _⟩, fun h => absurd rfl h⟩, fun k hk => hk.elim, Below.refl _ _⟩
  | some a =>
    refine (Tryz.bytes_Clone_at a n cap (nums l) w (by rw [nums_length, hl]) hc.2.2 h.cellsAt).mono ?_
    rintro e w' ⟨v', rfl, hown, _, hb⟩
    rw [← u8s_eq] at hown
    obtain ⟨p', cap', rfl, hbs, hblk⟩ := BS.of_owns hown hc.2.2
    exact ⟨p', cap', rfl, hbs, hblk, hb⟩

set_option maxHeartbeats 400000 in
set_option maxRecDepth 8000 in
theorem cur_new (w : World) (p : Option Addr) (n cap : Nat) (l : List UInt8) (big : Bool) (h : BS w (.slice p n cap) l) :
    Calls Tryz.prog 106 #[.slice p n cap, .bool big] w fun e w' => ∃ c, e = .returned (.pointer (some ⟨c, 0, none⟩)) ∧ w.heap.size ≤ c ∧ CurAt w' c l 0 big false ∧ Below w.heap.size w w' := by
  have H := hid h
  clear h
  go_enter Tryz.func106, Tryz.ntmps106
  go_wp2_with fail
  refine (clone_any w p n cap l H.out).mono ?_
  rintro e w1 ⟨p', cap', rfl, hbs, hblk, hb⟩
  have hsz := hb.size
  have H1 := hid (And.intro hbs (And.intro hblk hb))
  clear hbs hblk hb
  go_wp2
  go_ret
  obtain ⟨hbs, hblk, hb⟩ := H1.out
  refine ⟨w1.heap.size, rfl, hsz, ⟨_, hbs.below ((Below.refl _ _).alloc (Nat.le_refl _) _), ?_, Nat.zero_le _, heap_alloc_new _ _⟩, hb.alloc hsz _⟩
  intro hk
  obtain ⟨p'', cap'', he, g1, g2, g3⟩ := hbs
  have hpos : 0 < n := by
    cases p' with
    | none => exact hk.elim
    | some a => exact hk.1
  cases he
  obtain ⟨b, off, rfl, hc⟩ := g3 (by intro e; rw [e] at hpos; exact absurd hpos (by simp))
  have h0 := hc 0 _ (List.getElem?_eq_getElem hpos)
  have := World.block_lt_of_cell? w1 _ h0
  have e : b = w1.heap.size := hk.2
  simp at this; omega

/-- bytes.IndexByte at 0, in these proofs' words. -/
theorem index0_any (w : World) (b off n cap : Nat) (L : List UInt8) (h : BS w (.slice (some ⟨b, off, none⟩) n cap) L) :
    Calls Tryz.prog 138 #[.slice (some ⟨b, off, none⟩) n cap, .int .u8 0] w fun e w' => e = .returned (.int .i64 (if nul L < L.length then (nul L : Int) else -1)) ∧ w = w' := by
  refine (Tryz.bytes_IndexByte_at ⟨b, off, none⟩ n cap (nums L) 0 w (by rw [nums_length, h.len]) h.cellsAt).mono ?_
  rintro e w' ⟨rfl, rfl⟩
  have e1 : Lib.bytesOf (nums L) = L := nums_back L
  rw [e1]
  exact ⟨by rw [← indexByte_nul]; rfl, rfl⟩

theorem un_u8 : Tryz.prog.underlying 5 = some (.int .u8) := by kernel_rfl
theorem un_str : Tryz.prog.underlying 9 = some .string := by kernel_rfl
theorem un_bs8 : Tryz.prog.underlying 27 = some (.slice 5) := by kernel_rfl

set_option maxHeartbeats 400000 in
set_option maxRecDepth 8000 in
/-- text: the name at a place. -/
theorem nl_text (w : World) (p : Option Addr) (n cap : Nat) (l : List UInt8) (at_ : Nat) (h : BS w (.slice p n cap) l) (hat : at_ < 2 ^ 64) :
    Calls Tryz.prog 174 #[.slice p n cap, .int .u64 at_] w fun e w' => e = .returned (.tuple #[.string (mkS (textM l at_).1), .int .i64 (textM l at_).2]) ∧ w = w' := by
  have hl := h.len
  have hc := h.cap
  by_cases h1 : n ≤ at_
  · have hm : textM l at_ = ([], 13) := by unfold textM; rw [if_pos (by omega)]
    have Hm := hid hm
    have hw : IntKind.u64.wrap (n : Int) = n := IntWalk.u64_in _ (by omega)
    clear hm h hl
    go_enter Tryz.func174, Tryz.ntmps174
    go_wp2
    go_ret2
    rw [Hm.out]
    exact ⟨rfl, rfl⟩
  · have hw : IntKind.u64.wrap (n : Int) = n := IntWalk.u64_in _ (by omega)
    have hml : n ≤ maxLen := by omega
    obtain rfl : l.length = n := hl
    have hrest := sub_bs h (lo := at_) (hi := l.length) (m := l.length) (by omega) (Nat.le_refl _) (Nat.le_refl _) hc.1
    rw [List.take_of_length_le (by simp)] at hrest
    obtain ⟨b, off, hp, hcl⟩ := hrest.at (by omega)
    rw [hp] at hrest
    have hsl := fun (w : World) => run_sub3 (P := Tryz.prog) (w := w) (t := 27) p l.length cap un_bs (sz_u8 w) .u64 .i64 .i64 at_ l.length l.length (by omega) (by omega) (by omega) (by omega)
    simp only [Int.toNat_natCast, hp] at hsl
    obtain ⟨L, hL⟩ : ∃ L, L = l.drop at_ := ⟨_, rfl⟩
    have hLl : L.length = l.length - at_ := by rw [hL]; simp
    rw [← hL] at hrest
    have hm : textM l at_ = if L.length ≤ nul L ∨ nul L = 0 then ([], 13) else if 255 < nul L then ([], 10) else (L.take (nul L), 0) := by
      unfold textM; rw [if_neg (by omega), ← hL]
    have hnl := nul_le L
    have H := hid (And.intro hm (And.intro hrest hL))
    clear hm hrest hL hcl h hp
    have hi := index0_any w b off (l.length - at_) (l.length - at_) L H.out.2.1
    by_cases hz : nul L < L.length ∧ nul L ≠ 0
    · rw [if_pos hz.1] at hi
      have hlt : 1 ≤ nul L := by omega
      have Hz := hid hz
      clear hz
      by_cases hb : 255 < nul L
      · have Hi := hid hi
        clear hi hLl
        go_enter Tryz.func174, Tryz.ntmps174
        go_wp2_with (go_at_call 138; refine (Hi.out).mono ?_; rintro e w' ⟨rfl, rfl⟩)
        go_ret2
        rw [H.out.1, if_neg (by have := Hz.out; omega), if_pos hb]
        exact ⟨rfl, rfl⟩
      · have Hi := hid hi
        have hsh := fun (w : World) => run_subh (P := Tryz.prog) (w := w) (t := 27) (some ⟨b, off, none⟩) (l.length - at_) (l.length - at_) un_bs (sz_u8 w) .i64 (nul L) (by omega) (by omega)
        simp only [Int.toNat_natCast] at hsh
        have hcv := run_toString (P := Tryz.prog) (some ⟨b, off, none⟩) (nul L) (l.length - at_) un_bs8 un_u8 un_str (pre_bs H.out.2.1 (hi := nul L) (m := l.length - at_) (by omega) (by omega) (Nat.le_refl _))
        clear hi hLl
        go_enter Tryz.func174, Tryz.ntmps174
        go_wp2_with (go_at_call 138; refine (Hi.out).mono ?_; rintro e w' ⟨rfl, rfl⟩)
        go_ret2
        rw [H.out.1, if_neg (by have := Hz.out; omega), if_neg hb]
        exact ⟨rfl, rfl⟩
    · have hm : textM l at_ = ([], 13) := by rw [H.out.1, if_pos (by omega)]
      have hlt : decide ((if nul L < L.length then (nul L : Int) else -1) < 1) = true := by simp; split <;> omega
      generalize (if nul L < L.length then (nul L : Int) else -1) = iv at hi hlt
      have hlt' : iv < 1 := by simpa using hlt
      have Hi := hid (And.intro hi hm)
      clear hi hm hz hlt hLl
      go_enter Tryz.func174, Tryz.ntmps174
      go_wp2_with (go_at_call 138; refine (Hi.out.1).mono ?_; rintro e w' ⟨rfl, rfl⟩)
      go_ret2
      rw [Hi.out.2]
      exact ⟨rfl, rfl⟩

end Go.Proofs.YthhjdkcnkdffcaaGreat.Nl

namespace Go.Proofs.YthhjdkcnkdffcaaGreat.Nl
set_option linter.unusedSimpArgs false
set_option linter.unusedVariables false
open Go.RowKit

theorem leNat_one {l : List UInt8} {k : Nat} (hk : k < l.length) : leNat ((l.drop k).take 1) = (l[k]?.getD 0).toNat := by
  have e : (l.drop k).take 1 = [l[k]] := by
    rw [List.take_one, List.head?_drop, List.getElem?_eq_getElem hk]; rfl
  rw [e]; simp [leNat, hk]

theorem grownBy_trans {a b c : World} {r : Option Nat} (h : a.grownBy b r) (k : b.grownBy c r) : a.grownBy c r :=
  ⟨k.os.trans h.os, k.tape.trans h.tape, k.output.trans h.output, Nat.le_trans h.size k.size, fun i hi hr => (k.block i (Nat.lt_of_lt_of_le hi h.size) hr).trans (h.block i hi hr)⟩

theorem Below.grownBy {B : Nat} {a b c : World} (h : Below B a b) {r : Nat} (k : b.grownBy c (some r)) (hr : B ≤ r) (hb : B ≤ b.heap.size) : Below B a c :=
  h.grown k hb (fun i hi => by cases hi; exact hr)

set_option maxHeartbeats 1000000 in
set_option maxRecDepth 8000 in
/-- An entry as it stands. -/
theorem nl_read (w : World) (p : Option Addr) (n cap : Nat) (l : List UInt8) (h : BS w (.slice p n cap) l) (hn : l.length = 16) :
    Calls Tryz.prog 172 #[.slice p n cap] w fun e w' =>
      e = .returned (.agg #[.int .u64 (leNat (l.take 4)), .int .i64 (l[4]?.getD 0).toNat, .int .i64 (l[5]?.getD 0).toNat, .int .u64 (leNat ((l.drop 6).take 2)), .int .u64 (leNat ((l.drop 8).take 8))]) ∧ Below w.heap.size w w' := by
  have h1 : BS (w.alloc (.cells #[.int .u64 0, .int .i64 0, .int .i64 0, .int .u64 0, .int .u64 0] 275)) (.slice p n cap) l := h.below ((Below.refl _ _).alloc (Nat.le_refl _) _)
  have H := hid (And.intro h1 hn)
  clear h h1 hn
  go_enter Tryz.func172, Tryz.ntmps172
  go_wp2_with fail
  refine (cur_new _ p n cap l false H.out.1).mono ?_
  rintro e w1 ⟨c, rfl, hc, hcur, hb⟩
  have hc' : w.heap.size + 1 ≤ c := by simpa using hc
  have hbk : w1.heap[w.heap.size]? = some (.cells #[.int .u64 0, .int .i64 0, .int .i64 0, .int .u64 0, .int .u64 0] 275) :=
    (hb.block w.heap.size (by simp)).trans (heap_alloc_new w _)
  have hbw : Below w.heap.size w w1 := ((Below.refl _ _).alloc (Nat.le_refl _) _).trans (hb.mono (by simp))
  have hsz1 : w.heap.size + 1 ≤ w1.heap.size := by have := hb.size; simpa using this
  have H1 := hid (And.intro hcur (And.intro hbk hbw))
  clear hc hcur hb hbk hbw
  go_wp2_with fail
  refine (cur_number_ok c _ l 0 4 _ (by omega) (by rfl) H1.out.1 (by rw [H.out.2]; omega)).mono ?_
  rintro e w2 ⟨rfl, hcur2, hg2⟩
  have H2 := hid (And.intro hcur2 hg2)
  clear hcur2 hg2
  go_wp2_with fail
  refine (cur_number_ok c _ l 4 1 _ (by omega) (by rfl) H2.out.1 (by rw [H.out.2]; omega)).mono ?_
  rintro e w3 ⟨rfl, hcur3, hg3⟩
  have H3 := hid (And.intro hcur3 (grownBy_trans H2.out.2 hg3))
  clear hcur3 hg3
  go_wp2_with fail
  refine (cur_number_ok c _ l 5 1 _ (by omega) (by rfl) H3.out.1 (by rw [H.out.2]; omega)).mono ?_
  rintro e w4 ⟨rfl, hcur4, hg4⟩
  have H4 := hid (And.intro hcur4 (grownBy_trans H3.out.2 hg4))
  clear hcur4 hg4
  go_wp2_with fail
  refine (cur_number_ok c _ l 6 2 _ (by omega) (by rfl) H4.out.1 (by rw [H.out.2]; omega)).mono ?_
  rintro e w5 ⟨rfl, hcur5, hg5⟩
  have H5 := hid (And.intro hcur5 (grownBy_trans H4.out.2 hg5))
  clear hcur5 hg5
  go_wp2_with fail
  refine (cur_number_ok c _ l 8 8 _ (by omega) (by rfl) H5.out.1 (by rw [H.out.2]; omega)).mono ?_
  rintro e w6 ⟨rfl, hcur6, hg6⟩
  have hg := grownBy_trans H5.out.2 hg6
  have hbk := (hg.block w.heap.size (by omega) (by simp; omega)).trans H1.out.2.1
  have hbw : Below w.heap.size w w6 := Below.grownBy H1.out.2.2 hg (by omega) (by omega)
  have hc0 := cell_of_row _ _ 0 _ _ _ hbk
  have hc1 := cell_of_row _ _ 1 _ _ _ hbk
  have hc2 := cell_of_row _ _ 2 _ _ _ hbk
  have hc3 := cell_of_row _ _ 3 _ _ _ hbk
  have hc4 := cell_of_row _ _ 4 _ _ _ hbk
  have hf := fun i => frozen_of_row _ _ i _ _ hbk
  have e4 : leNat ((l.drop 4).take 1) = (l[4]?.getD 0).toNat := leNat_one (by rw [H.out.2]; omega)
  have e5 : leNat ((l.drop 5).take 1) = (l[5]?.getD 0).toNat := leNat_one (by rw [H.out.2]; omega)
  rw [e4, e5]
  have b4 : ((l[4]?.getD 0).toNat : Int) ≤ 255 := by have := (l[4]?.getD 0).toNat_lt; omega
  have b5 : ((l[5]?.getD 0).toNat : Int) ≤ 255 := by have := (l[5]?.getD 0).toNat_lt; omega
  have H6 := hid hbw
  clear hcur6 hg6 hg hbk hbw e4 e5
  go_wp2
  refine bodyPost_ret (v := .agg #[.int .u64 (leNat (l.take 4)), .int .i64 (l[4]?.getD 0).toNat, .int .i64 (l[5]?.getD 0).toNat, .int .u64 (leNat ((l.drop 6).take 2)), .int .u64 (leNat ((l.drop 8).take 8))]) (by simp [results, Tryz.results172, go_sem, hc0, hc1, hc2, hc3, hc4]; exact ⟨IntWalk.wrap64_in _ (by omega), IntWalk.wrap64_in _ (by omega)⟩) rfl ⟨rfl, ?_⟩
  have hbw := H6.out
  go_grown

theorem and_128 (d : Nat) (h : d < 2 ^ 16) : (bits BinOp.and IntKind.u64 (d : Int) 128 != 0) = (d / 128 % 2 == 1) := by
  rw [show (128 : Int) = ((128 : Nat) : Int) from rfl, and_u64 d 128 (by omega) (by omega)]
  have e : d &&& 128 = d / 128 % 2 * 128 := by
    have h1 : (128 : Nat) = 1 <<< 7 := rfl
    apply Nat.eq_of_testBit_eq
    intro i
    rw [Nat.testBit_and, show (128 : Nat) = 2 ^ 7 from rfl, Nat.testBit_two_pow, Nat.mul_comm, Nat.testBit_two_pow_mul]
    by_cases hi : 7 = i
    · subst hi
      simp [Nat.testBit_eq_decide_div_mod_eq]
    · simp [hi]
      intro h7
      have hlt : d / 2 ^ 7 % 2 < 2 ^ (i - 7) := Nat.lt_of_lt_of_le (Nat.mod_lt _ (by omega)) (by
        have : 1 ≤ i - 7 := by omega
        calc 2 = 2 ^ 1 := rfl
          _ ≤ 2 ^ (i - 7) := Nat.pow_le_pow_right (by omega) this)
      exact Nat.testBit_lt_two_pow hlt
  rw [e]
  rcases Nat.mod_two_eq_zero_or_one (d / 128) with h0 | h0 <;> simp [h0]

theorem kind_not : ∀ k : Fin 256, k.val ≠ 15 → k.val ≠ 3 → (bits BinOp.andNot IntKind.i64 (k.val : Int) 14 == 1) = true →
    (bits BinOp.and IntKind.i64 (k.val : Int) 14 == 14) = false ∧ (bits BinOp.and IntKind.i64 (k.val : Int) 14 == 2) = false := by decide +kernel

set_option maxHeartbeats 1000000 in
set_option maxRecDepth 8000 in
/-- What an entry tells, of the kinds that tell nothing. -/
theorem nl_told_no (w : World) (nm k s d a : Nat) (sections : Int) (hk : k < 256) (h15 : k ≠ 15) (h3 : k ≠ 3) :
    Calls Tryz.prog 173 #[.agg #[.int .u64 nm, .int .i64 k, .int .i64 s, .int .u64 d, .int .u64 a], .int .i64 sections] w fun e w' =>
      e = .returned (.tuple #[.agg Sym.zero.cells.toArray, .bool false, .int .i64 0]) ∧ Below w.heap.size w w' := by
  have hkn := kind_not ⟨k, hk⟩ h15 h3
  simp only at hkn
  by_cases hx : (bits BinOp.andNot IntKind.i64 (k : Int) 14 == 1) = true
  · obtain ⟨e1, e2⟩ := hkn hx
    clear hkn
    go_enter Tryz.func173, Tryz.ntmps173
    go_wp2
    go_region
    go_wp2
    refine bodyPost_ret (v := .tuple #[.agg Sym.zero.cells.toArray, .bool false, .int .i64 0]) (by simp [results, Tryz.results173, go_sem, Sym.cells, Sym.zero, mkS]) rfl ⟨rfl, ?_⟩
    go_grown
  · have hx' : (bits BinOp.andNot IntKind.i64 (k : Int) 14 == 1) = false := by simpa using hx
    clear hkn hx
    go_enter Tryz.func173, Tryz.ntmps173
    go_wp2
    go_region
    go_wp2
    refine bodyPost_ret (v := .tuple #[.agg Sym.zero.cells.toArray, .bool false, .int .i64 0]) (by simp [results, Tryz.results173, go_sem, Sym.cells, Sym.zero, mkS]) rfl ⟨rfl, ?_⟩
    go_grown

set_option maxHeartbeats 1000000 in
set_option maxRecDepth 8000 in
theorem nl_told_3 (w : World) (nm s d a : Nat) (sections : Int) (hd : d < 2 ^ 16) :
    Calls Tryz.prog 173 #[.agg #[.int .u64 nm, .int .i64 3, .int .i64 s, .int .u64 d, .int .u64 a], .int .i64 sections] w fun e w' =>
      e = .returned (.tuple #[.agg (Sym.mk [] 0 a (d / 128 % 2 == 1)).cells.toArray, .bool true, .int .i64 0]) ∧ Below w.heap.size w w' := by
  go_enter Tryz.func173, Tryz.ntmps173
  go_wp2
  go_region
  go_wp2
  refine bodyPost_ret (v := .tuple #[.agg (Sym.mk [] 0 a (d / 128 % 2 == 1)).cells.toArray, .bool true, .int .i64 0]) (by simp [results, Tryz.results173, go_sem, Sym.cells, mkS, and_128 d hd]) rfl ⟨rfl, ?_⟩
  go_grown

set_option maxHeartbeats 1000000 in
set_option maxRecDepth 8000 in
theorem nl_told_15 (w : World) (nm s d a : Nat) (sections : Int) (hd : d < 2 ^ 16) (hs : s < 256) :
    Calls Tryz.prog 173 #[.agg #[.int .u64 nm, .int .i64 15, .int .i64 s, .int .u64 d, .int .u64 a], .int .i64 sections] w fun e w' =>
      e = .returned (.tuple #[.agg (toldM 15 s d a sections).1.cells.toArray, .bool true, .int .i64 (toldM 15 s d a sections).2.2]) ∧ Below w.heap.size w w' := by
  by_cases h1 : (s : Int) < 1
  · have hm : toldM 15 s d a sections = (Sym.zero, true, 13) := by unfold toldM; rw [if_pos rfl, if_pos (Or.inl h1)]
    rw [hm]
    clear hm
    go_enter Tryz.func173, Tryz.ntmps173
    go_wp2
    go_region
    go_wp2
    refine bodyPost_ret (v := .tuple #[.agg Sym.zero.cells.toArray, .bool true, .int .i64 13]) (by simp [results, Tryz.results173, go_sem, Sym.cells, Sym.zero, mkS]) rfl ⟨rfl, ?_⟩
    go_grown
  · by_cases h2 : sections < (s : Int)
    · have hm : toldM 15 s d a sections = (Sym.zero, true, 13) := by unfold toldM; rw [if_pos rfl, if_pos (Or.inr h2)]
      rw [hm]
      clear hm
      go_enter Tryz.func173, Tryz.ntmps173
      go_wp2
      go_region
      go_wp2
      refine bodyPost_ret (v := .tuple #[.agg Sym.zero.cells.toArray, .bool true, .int .i64 13]) (by simp [results, Tryz.results173, go_sem, Sym.cells, Sym.zero, mkS]) rfl ⟨rfl, ?_⟩
      go_grown
    · have hm : toldM 15 s d a sections = (Sym.mk [] s a (d / 128 % 2 == 1), true, 0) := by unfold toldM; rw [if_pos rfl, if_neg (by omega)]
      rw [hm]
      clear hm
      go_enter Tryz.func173, Tryz.ntmps173
      go_wp2
      go_region
      go_wp2
      refine bodyPost_ret (v := .tuple #[.agg (Sym.mk [] s a (d / 128 % 2 == 1)).cells.toArray, .bool true, .int .i64 0]) (by simp [results, Tryz.results173, go_sem, Sym.cells, mkS, and_128 d hd]) rfl ⟨rfl, ?_⟩
      go_grown

/-- What an entry tells. -/
theorem nl_told (w : World) (nm k s d a : Nat) (sections : Int) (hk : k < 256) (hd : d < 2 ^ 16) (hs : s < 256) :
    Calls Tryz.prog 173 #[.agg #[.int .u64 nm, .int .i64 k, .int .i64 s, .int .u64 d, .int .u64 a], .int .i64 sections] w fun e w' =>
      e = .returned (.tuple #[.agg (toldM k s d a sections).1.cells.toArray, .bool (toldM k s d a sections).2.1, .int .i64 (toldM k s d a sections).2.2]) ∧ Below w.heap.size w w' := by
  by_cases h15 : k = 15
  · subst h15
    have e : (toldM 15 s d a sections).2.1 = true := by unfold toldM; rw [if_pos rfl]; split <;> rfl
    rw [e]
    exact nl_told_15 w nm s d a sections hd hs
  · by_cases h3 : k = 3
    · subst h3
      exact nl_told_3 w nm s d a sections hd
    · have e : toldM k s d a sections = (Sym.zero, false, 0) := by unfold toldM; rw [if_neg h15, if_neg h3]
      rw [e]
      exact nl_told_no w nm k s d a sections hk h15 h3

end Go.Proofs.YthhjdkcnkdffcaaGreat.Nl

namespace Go.Proofs.YthhjdkcnkdffcaaGreat.Nl
set_option linter.unusedSimpArgs false
set_option linter.unusedVariables false
open Go.RowKit Go.Maps

/-- How an element struct{ is bool } reads. -/
def isElem (v : Value) : Option (DataW Unit × List MemPlace) :=
  match v with
  | .agg ⟨[.bool b]⟩ => some (.agg [.lit (.bool b)], [])
  | _ => none

theorem isElem_mk (b : Bool) : isElem (.agg #[.bool b]) = some (.agg [.lit (.bool b)], []) := rfl

theorem isElem_inv {v : Value} {b : Bool} {ps : List MemPlace} (h : isElem v = some (.agg [.lit (.bool b)], ps)) : v = .agg #[.bool b] := by
  unfold isElem at h
  split at h
  · simp only [Option.some.injEq, Prod.mk.injEq, DataW.agg.injEq, List.cons.injEq, DataW.lit.injEq, Lit.bool.injEq] at h
    obtain ⟨⟨rfl, _⟩, _⟩ := h
    rfl
  · cases h

/-- The names that were met, as a datum. -/
def seenD (names : List (List UInt8)) : DataW Unit := setOf (.agg [.lit (.bool true)]) (names.map Lit.string)

theorem seenD_snoc (names : List (List UInt8)) (x : List UInt8) : seenD (names ++ [x]) = (seenD names).put (.string x) (.agg [.lit (.bool true)]) := by
  unfold seenD; rw [List.map_append]; exact setOf_snoc _ _ _

theorem seenD_isMap (names : List (List UInt8)) : IsMap (seenD names) :=
  (tidy_setOf _ _ (fun x hx => by obtain ⟨y, _, rfl⟩ := List.mem_map.1 hx; trivial)).isMap

theorem seenD_at (k : List UInt8) : ∀ (names : List (List UInt8)), (seenD names).atKey (.string k) (.agg [.lit (.bool false)]) = .agg [.lit (.bool (names.any (· == k)))] := by
  intro names
  obtain ⟨r, rfl⟩ : ∃ r, names = r.reverse := ⟨names.reverse, by simp⟩
  induction r with
  | nil => rfl
  | cons x r ih =>
    rw [List.reverse_cons, seenD_snoc]
    by_cases h : x = k
    · subst h
      rw [atKey_put_same (seenD_isMap _) (by trivial)]
      simp
    · rw [atKey_put_other (fun e => h (by cases e; rfl)), ih]
      simp [h]

variable {P : Program} {w : World} {b n : Nat}

/-- 'seen[k].is'. -/
theorem seen_look {t e k : TypeId} {names : List (List UInt8)} (h : w.ownsMap P k isElem b n (seenD names)) (K : Keyed P k) (ht : P.underlying t = some (.map k e))
    (hz : (zeroValue e).run P w = .ok (.agg #[.bool false]) w) {key : Value} {kl : List UInt8} (hkey : keyOf P k key = some (.string kl)) :
    (Instr.lookup t (.map (some b)) key false).run P w = .ok (.agg #[.bool (names.any (· == kl))]) w := by
  obtain ⟨v, ps, hrun, hv⟩ := h.lookup K ht hz (isElem_mk false) hkey
  rw [seenD_at] at hv
  rw [hrun, isElem_inv hv]

end Go.Proofs.YthhjdkcnkdffcaaGreat.Nl

namespace Go.Proofs.YthhjdkcnkdffcaaGreat.Nl
set_option linter.unusedSimpArgs false
set_option linter.unusedVariables false
open Go.RowKit Go.Maps

theorem Tryz.infoSym : (Tryz.prog.info? 62).map (fun i => (i.zero, i.size, i.bytes)) = some (some (.agg #[.string ⟨#[]⟩, .int .i64 0, .int .u64 0, .bool false]), 4, 40) := by kernel_rfl
theorem un_map : Tryz.prog.underlying 273 = some (.map 9 280) := by kernel_rfl
theorem un_syms : Tryz.prog.underlying 56 = some (.slice 62) := by kernel_rfl
theorem keyed_str : Keyed Tryz.prog 9 := string_keyed un_str
theorem zero_is (w : World) : (zeroValue 280).run Tryz.prog w = .ok (.agg #[.bool false]) w := by kernel_rfl

theorem field_is (b : Bool) (w : World) : (Instr.field 280 (.agg #[.bool b]) 0).run Tryz.prog w = .ok (.bool b) w := by cases b <;> kernel_rfl

def symsCells (l : List Sym) : List Value := l.flatMap Sym.cells
theorem symsCells_snoc (l : List Sym) (s : Sym) : symsCells (l ++ [s]) = symsCells l ++ s.cells := by simp [symsCells]

/-- What holds at the head of each round. -/
structure AllRel (w : World) (nv : Value) (names : List UInt8) (sections : Int) (M : List Sym × Nat) (t0 v8 : Value) (wr : World) (m : Nat) (T : List UInt8) (out : List Sym) : Prop where
  below : Below w.heap.size w wr
  size : w.heap.size + 1 ≤ wr.heap.size
  tab : BS w t0 T
  len : T.length = 16 * m
  own : wr.ownsRow (w.heap.size + 1) 62 4 v8 out.length (symsCells out)
  map : wr.ownsMap Tryz.prog 9 isElem w.heap.size out.length (seenD (out.map Sym.name))
  few : out.length ≤ 4096
  val : allM names sections m T out = M

def AllAt (w : World) (nv : Value) (names : List UInt8) (sections : Int) (M : List Sym × Nat) (t0 v8 : Value) (wr : World) : Prop :=
  ∃ m T out, AllRel w nv names sections M t0 v8 wr m T out

def AllPost (w : World) (M : List Sym × Nat) (e : Ending) (w' : World) : Prop :=
  ∃ v, e = .returned (.tuple #[v, .int .i64 M.2]) ∧ w'.ownsRow w.heap.size 62 4 v M.1.length (symsCells M.1) ∧ Below w.heap.size w w'

theorem ownsMap_below {w w' : World} {b n : Nat} {D : DataW Unit} (h : w.ownsMap Tryz.prog 9 isElem b n D) (hb : Below w.heap.size w w') : w'.ownsMap Tryz.prog 9 isElem b n D :=
  h.kept (Below.all hb none) (by simp)

theorem AllRel.keep {w : World} {nv : Value} {names : List UInt8} {sections : Int} {M : List Sym × Nat} {t0 v8 : Value} {wr : World} {m : Nat} {T : List UInt8} {out : List Sym}
    (R : AllRel w nv names sections M t0 v8 wr (m + 1) T out) {w' : World} (hb : Below wr.heap.size wr w') {t' : Value} (ht : BS w t' (T.drop 16)) (hv : allM names sections m (T.drop 16) out = M) :
    AllRel w nv names sections M t' v8 w' m (T.drop 16) out :=
  ⟨R.below.trans (hb.mono R.below.size), Nat.le_trans R.size hb.size, ht, by rw [List.length_drop, R.len]; omega, ownsRow_below R.own hb, ownsMap_below R.map hb, R.few, hv⟩

theorem toldM_er {k s d a : Nat} {sections : Int} {s0 : Sym} {er : Nat} (h : toldM k s d a sections = (s0, true, er)) : (er = 0 ∨ er = 13) ∧ (er = 0 → s0.name = []) := by
  unfold toldM at h
  split at h
  · split at h
    · cases h; exact ⟨Or.inr rfl, fun e => by omega⟩
    · cases h; exact ⟨Or.inl rfl, fun _ => rfl⟩
  · split at h
    · cases h; exact ⟨Or.inl rfl, fun _ => rfl⟩
    · cases h

theorem entryM_told {E names : List UInt8} {sections : Int} {s0 : Sym} {is : Bool} {er : Nat} (h : toldM (E[4]?.getD 0).toNat (E[5]?.getD 0).toNat (leNat ((E.drop 6).take 2)) (leNat ((E.drop 8).take 8)) sections = (s0, is, er)) :
    entryM E names sections = if is = false then none else if er ≠ 0 then some (er, Sym.zero) else if (textM names (leNat (E.take 4))).2 ≠ 0 then some ((textM names (leNat (E.take 4))).2, Sym.zero) else some (0, { s0 with name := (textM names (leNat (E.take 4))).1 }) := by
  unfold entryM; rw [h]

theorem ownsRow_row {w w' : World} {base : Nat} {e : TypeId} {size : Nat} {v : Value} {n : Nat} {xs : List Value} (h : w.ownsRow base e size v n xs) {r : Nat} (hg : w.grownBy w' (some r)) (hr : r < base) : w'.ownsRow base e size v n xs :=
  h.kept hg (Or.inr (fun e => by have := (h.lt r e).1; omega))

theorem AllPost_err {w w' : World} {e : Nat} (hb : Below w.heap.size w w') : AllPost w ([], e) (.returned (.tuple #[.slice none 0 0, .int .i64 e])) w' :=
  ⟨_, rfl, World.ownsRow_nil _ _ _ _, hb⟩

theorem textM_er (l : List UInt8) (a : Nat) : ((textM l a).2 = 0 ∨ (textM l a).2 = 13 ∨ (textM l a).2 = 10) ∧ (textM l a).1.length ≤ 255 := by
  unfold textM
  split
  · exact ⟨Or.inr (Or.inl rfl), by simp⟩
  · split
    · exact ⟨Or.inr (Or.inl rfl), by simp⟩
    · split
      · exact ⟨Or.inr (Or.inr rfl), by simp⟩
      · rename_i h
        refine ⟨Or.inl rfl, ?_⟩
        show (List.take (nul (l.drop a)) (l.drop a)).length ≤ 255
        rw [List.length_take]; omega

set_option maxHeartbeats 2000000 in
set_option maxRecDepth 8000 in
theorem nl_all (w : World) (p q : Option Addr) (n cap k capk : Nat) (table names : List UInt8) (sections : Int) (ht : BS w (.slice p n cap) table) (hn : BS w (.slice q k capk) names) :
    Calls Tryz.prog 168 #[.slice p n cap, .slice q k capk, .int .i64 sections] w (AllPost w (tableM table names sections)) := by
  have hl := ht.len
  have hcp := ht.cap
  by_cases hm : n % 16 = 0
  · have hm1 : ((n : Int) % 16 != 0) = false := by simp; omega
    have hmk := @run_makeMap Tryz.prog
    have hfd := field_is
    have hM : tableM table names sections = allM names sections (n / 16) table [] := by unfold tableM; rw [if_neg (by omega), hl]
    obtain ⟨M, hMM⟩ : ∃ M, M = tableM table names sections := ⟨_, rfl⟩
    rw [← hMM] at hM ⊢
    have H := hid (And.intro ht (And.intro hn (And.intro hM.symm (And.intro hl hm))))
    clear ht hn hM hMM hl hm hcp
    go_enter Tryz.func168, Tryz.ntmps168
    go_wp2_with fail
    go_loopw [0, 8] (fun t0 v8 wr => AllAt w (.slice q k capk) names sections M t0 v8 wr) (fun t0 _ _ => slLen t0)
    case atStart =>
      obtain ⟨ht, hn, hM, hl, hm⟩ := H.out
      exact ⟨n / 16, table, [], ⟨(Below.refl _ _).alloc (Nat.le_refl _) _, by simp, ht, by omega, World.ownsRow_nil _ _ _ _, World.ownsMap_made _ _ _ _, by simp, hM⟩⟩
    case round =>
      obtain ⟨m, T, out, R⟩ := hrel
      obtain ⟨p0, c0, rfl⟩ := R.tab.form R.len
      obtain ⟨a8, c8, rfl⟩ := ownsRow_form R.own
      have hcp := R.tab.cap
      have hfew := R.few
      have hszr := R.size
      cases m with
      | zero =>
        have HR := hid R
        clear R
        go_wp2
        go_ret2
        have R := HR.out
        have hv := R.val
        unfold allM at hv
        subst hv
        exact ⟨_, rfl, ownsRow_base R.own (by omega), R.below⟩
      | succ m =>
        obtain ⟨E, hE⟩ : ∃ E, E = T.take 16 := ⟨_, rfl⟩
        have hb16 : BS wr (.slice p0 16 16) E := by rw [hE]; exact (pre_bs R.tab (hi := 16) (m := 16) (by omega) (Nat.le_refl _) (by omega)).below R.below
        have hl16 : E.length = 16 := by rw [hE, List.length_take, R.len]; omega
        have hsl := fun (w : World) => run_subhm (P := Tryz.prog) (w := w) (t := 27) p0 (16 * (m + 1)) c0 un_bs (sz_u8 w) .i64 .i64 16 16 (by omega) (by omega) (by omega)
        have hdr := fun (w : World) => run_subl (P := Tryz.prog) (w := w) (t := 27) p0 (16 * (m + 1)) c0 un_bs (sz_u8 w) .i64 16 (by omega) (by omega)
        have hnext : BS w (.slice (subA p0 16 c0) (16 * m) (c0 - 16)) (T.drop 16) := by
          have := drop_bs R.tab (lo := 16) (by omega)
          rwa [show 16 * (m + 1) - 16 = 16 * m by omega] at this
        have hlen16 : (0 : Int) < ((16 * (m + 1) : Nat) : Int) := by omega
        have HR := hid (And.intro R (And.intro hb16 (And.intro hl16 (And.intro hE hnext))))
        clear R hb16 hl16 hE hnext
        go_wp2_with fail
        refine (nl_read _ p0 16 16 E HR.out.2.1 HR.out.2.2.1).mono ?_
        rintro e w1 ⟨rfl, hb1⟩
        obtain ⟨nm, hnm⟩ : ∃ nm, nm = leNat (E.take 4) := ⟨_, rfl⟩
        obtain ⟨kd, hkd⟩ : ∃ kd, kd = (E[4]?.getD 0).toNat := ⟨_, rfl⟩
        obtain ⟨sc, hsc⟩ : ∃ sc, sc = (E[5]?.getD 0).toNat := ⟨_, rfl⟩
        obtain ⟨de, hde⟩ : ∃ de, de = leNat ((E.drop 6).take 2) := ⟨_, rfl⟩
        obtain ⟨ad, had⟩ : ∃ ad, ad = leNat ((E.drop 8).take 8) := ⟨_, rfl⟩
        rw [← hnm, ← hkd, ← hsc, ← hde, ← had]
        obtain ⟨⟨sn, ss, sv, sw⟩, is, er, htold⟩ : ∃ s0 is er, toldM kd sc de ad sections = (s0, is, er) := ⟨_, _, _, rfl⟩
        have bkd : kd < 256 := by rw [hkd]; exact (E[4]?.getD 0).toNat_lt
        have bsc : sc < 256 := by rw [hsc]; exact (E[5]?.getD 0).toNat_lt
        have bde : de < 2 ^ 16 := by
          rw [hde]; refine Nat.lt_of_lt_of_le (leNat_lt _) ?_
          have : ((E.drop 6).take 2).length ≤ 2 := List.length_take_le _ _
          exact Nat.le_trans (Nat.pow_le_pow_right (by omega) this) (by decide)
        have bnm : nm < 2 ^ 64 := by
          rw [hnm]; refine Nat.lt_of_lt_of_le (leNat_lt _) ?_
          have : (E.take 4).length ≤ 4 := List.length_take_le _ _
          exact Nat.le_trans (Nat.pow_le_pow_right (by omega) this) (by decide)
        have hs1 := hb1.size
        have Hb1 := hid (And.intro hb1 (And.intro hnm (And.intro hkd (And.intro hsc (And.intro hde (And.intro had (And.intro htold (And.intro bkd (And.intro bsc (And.intro bde bnm))))))))))
        clear hb1 hnm hkd hsc hde had htold bkd bsc bde bnm
        go_wp2_with fail
        have htc := nl_told (w1.alloc (.cells #[.int .u64 nm, .int .i64 kd, .int .i64 sc, .int .u64 de, .int .u64 ad] 275)) nm kd sc de ad sections Hb1.out.2.2.2.2.2.2.2.1 Hb1.out.2.2.2.2.2.2.2.2.2.1 Hb1.out.2.2.2.2.2.2.2.2.1
        rw [Hb1.out.2.2.2.2.2.2.1] at htc
        simp only [Sym.cells] at htc
        refine htc.mono ?_
        clear htc
        rintro e w2 ⟨rfl, hb2⟩
        have hs2 := hb2.size
        simp only [World.size_alloc] at hs2
        have hx2 : w2.cell? ⟨w1.heap.size, 0, none⟩ = some (.int .u64 nm) := (hb2.cell (by simp)).trans (by rw [World.cell?_alloc_at _ _ _ _ rfl]; rfl)
        have hb12 : Below wr.heap.size wr w2 := (Hb1.out.1.alloc hs1 _).trans (hb2.mono (by simp; omega))
        have hbw2 : Below w.heap.size w w2 := HR.out.1.below.trans (hb12.mono HR.out.1.below.size)
        have hent := entryM_told (names := names) (s0 := ⟨sn, ss, sv, sw⟩) (is := is) (er := er) (by rw [← Hb1.out.2.2.1, ← Hb1.out.2.2.2.1, ← Hb1.out.2.2.2.2.1, ← Hb1.out.2.2.2.2.2.1]; exact Hb1.out.2.2.2.2.2.2.1)
        rw [← Hb1.out.2.1, HR.out.2.2.2.1] at hent
        have hval := HR.out.1.val
        unfold allM at hval
        rw [hent] at hval
        have Hb2 := hid (And.intro hb12 (And.intro hbw2 hval))
        clear hb2 hb12 hbw2 hent hval
        cases is with
        | false =>
          go_wp2
          obtain ⟨R, -, -, hE, hnext⟩ := HR.out
          obtain ⟨hb12, hbw2, hval⟩ := Hb2.out
          refine ⟨⟨m, T.drop 16, out, R.keep (hb12.alloc (by omega) _) (by rw [show 16 * (m + 1) - 16 = 16 * m by omega]; exact hnext) hval⟩, by show 16 * (m + 1) - 16 < 16 * (m + 1); omega⟩
        | true =>
          obtain ⟨her, hsn⟩ := toldM_er Hb1.out.2.2.2.2.2.2.1
          rcases her with rfl | rfl
          · have hsn0 : sn = [] := hsn rfl
            subst hsn0
            clear hsn
            obtain ⟨nl, e2, htext⟩ : ∃ nl e2, textM names nm = (nl, e2) := ⟨_, _, rfl⟩
            have hte := textM_er names nm
            rw [htext] at hte
            obtain ⟨hte, hnl⟩ := hte
            have htx := nl_text (w2.alloc (.cells #[.string (mkS []), .int .i64 ss, .int .u64 sv, .bool sw] 62)) q k capk names nm (H.out.2.1.below (Hb2.out.2.1.alloc (Nat.le_trans HR.out.1.below.size (by omega)) _)) Hb1.out.2.2.2.2.2.2.2.2.2.2
            rw [htext] at htx
            have hx3 : (w2.alloc (.cells #[.string (mkS []), .int .i64 ss, .int .u64 sv, .bool sw] 62)).cell? ⟨w1.heap.size, 0, none⟩ = some (.int .u64 nm) := by
              rw [World.cell?_alloc_past _ _ _ (by show w1.heap.size < w2.heap.size; omega)]; exact hx2
            have Htx := hid htx
            have Hte := hid (And.intro htext hnl)
            clear htx htext hnl
            go_wp2_with fail
            refine (Htx.out).mono ?_
            rintro e w3 ⟨rfl, rfl⟩
            rcases hte with rfl | rfl | rfl
            · have hb3 : Below wr.heap.size wr (w2.alloc (.cells #[.string (mkS nl), .int .i64 ss, .int .u64 sv, .bool sw] 62)) := Hb2.out.1.alloc (by omega) _
              have hkey : keyOf Tryz.prog 9 (.string (mkS nl)) = some (.string nl) := WideMaps.keyOf_string_mk un_str (by rw [mkS_size]; exact Nat.le_trans Hte.out.2 (by decide))
              have hmap3 := ownsMap_below HR.out.1.map hb3
              have hlk := seen_look hmap3 keyed_str un_map (zero_is _) hkey
              obtain ⟨seen, hseen⟩ : ∃ seen, seen = (out.map Sym.name).any (· == nl) := ⟨_, rfl⟩
              rw [← hseen] at hlk
              have hval : (if out.any (fun x => x.name == nl) then (([], 21) : List Sym × Nat) else if out.length = 4096 then ([], 11) else allM names sections m (T.drop 16) (out ++ [⟨nl, ss, sv, sw⟩])) = M := by
                have := Hb2.out.2.2
                rw [Hte.out.1] at this
                exact this
              have hsn2 : out.any (fun x => x.name == nl) = seen := by rw [hseen, List.any_map]; rfl
              rw [hsn2] at hval
              have H3 := hid (And.intro hb3 (And.intro hmap3 (And.intro hkey hval)))
              clear hb3 hmap3 hkey hval hsn2 hseen
              cases seen with
              | true =>
                go_wp2
                go_ret2
                obtain ⟨-, -, -, hval⟩ := H3.out
                have hval : (([], 21) : List Sym × Nat) = M := by simpa using hval
                rw [← hval]
                exact AllPost_err (Hb2.out.2.1.alloc (Nat.le_trans HR.out.1.below.size (by omega)) _)
              | false =>
                by_cases h4 : out.length = 4096
                · have h4' : ((out.length : Int) == 4096) = true := by rw [beq_iff_eq]; omega
                  have H4 := hid h4
                  clear h4
                  go_wp2
                  go_ret2
                  obtain ⟨-, -, -, hval⟩ := H3.out
                  have hval : (([], 11) : List Sym × Nat) = M := by simpa [H4.out] using hval
                  rw [← hval]
                  exact AllPost_err (Hb2.out.2.1.alloc (Nat.le_trans HR.out.1.below.size (by omega)) _)
                · have h4' : ((out.length : Int) == 4096) = false := by rw [beq_eq_false_iff_ne]; omega
                  have H4 := hid h4
                  clear h4
                  obtain ⟨i0, hi, hz0, hz1, hz2⟩ := info_parts Tryz.infoSym
                  have Hi := hid (And.intro hi (And.intro hz0 (And.intro hz1 hz2)))
                  clear hi hz0 hz1 hz2
                  go_wp2_with (first
                    | (at_mapUpdate; refine wpList_mapUpdate_own _ rfl _ _ _ 273 rfl 9 280 keyed_str un_map isElem w.heap.size out.length (seenD (out.map Sym.name)) rfl H3.out.2.1 (Nat.lt_of_le_of_lt HR.out.1.few (by decide)) _ _ (.string nl) rfl rfl H3.out.2.2.1 (.agg [.lit (.bool true)]) [] (isElem_mk true) ?_; intro w4 hown4 hgrow4; obtain ⟨⟨q0, q1, q2, q3⟩, -⟩ := cur_cells ((hgrow4.block w2.heap.size (by simp) (by simp; omega)).trans (heap_alloc_new w2 _)); have hsz4 : w2.heap.size + 1 ≤ w4.heap.size := (by have h4 := hgrow4.size; simpa using h4); have HM := hid (And.intro hown4 (And.intro hgrow4 (ownsRow_row (ownsRow_below HR.out.1.own H3.out.1) hgrow4 (by omega)))); clear hown4 hgrow4)
                    | (at_builtin; refine wpList_append_own _ rfl _ _ 56 rfl (w.heap.size + 1) 62 i0 _ 4 40 un_syms Hi.out.1 Hi.out.2.1 Hi.out.2.2.1 Hi.out.2.2.2 rfl (by decide) _ _ _ rfl (HM.out.2.2.alloc _) ⟨w4.heap.size, 0, none⟩ 1 1 [.string (mkS nl), .int .i64 ss, .int .u64 sv, .bool sw] rfl rfl (cells_new _ _ _) ?c2 ?c3 ?c4 ?c5 ?_))
                  case c2 => intro u hu; simp at hu; rcases hu with rfl | rfl | rfl | rfl <;> rfl
                  case c3 => exact Nat.le_trans (Nat.add_le_add_right HR.out.1.few 1) (by decide)
                  case c4 => have := HR.out.1.few; omega
                  case c5 => simp; omega
                  intro v' w5 hown5 hgrow5 _
                  have H5 := hid (And.intro hown5 hgrow5)
                  clear hown5 hgrow5
                  go_wp2
                  obtain ⟨hown5, hgrow5⟩ := H5.out
                  obtain ⟨hown4, hgrow4, hown8⟩ := HM.out
                  obtain ⟨R, -, -, hE, hnext⟩ := HR.out
                  obtain ⟨hb3, -, -, hval⟩ := H3.out
                  have hv : allM names sections m (T.drop 16) (out ++ [⟨nl, ss, sv, sw⟩]) = M := by simpa [H4.out] using hval
                  have hlt8 := fun (k : Nat) (hk : some k = Value.ownBlock (.slice a8 out.length c8)) => (hown8.lt k hk.symm)
                  refine ⟨⟨m, T.drop 16, out ++ [⟨nl, ss, sv, sw⟩], ⟨?_, ?_, ?_, ?_, ?_, ?_, ?_, hv⟩⟩, by show 16 * (m + 1) - 16 < 16 * (m + 1); omega⟩
                  · refine Below.grown (Below.alloc (Below.grownBy (R.below.trans (hb3.mono R.below.size)) hgrow4 (Nat.le_refl _) (by simp; omega)) (by omega) _) hgrow5 (by simp; omega) (fun k hk => by have := (hlt8 k hk.symm).1; omega)
                  · have := hgrow5.size; simp at this; omega
                  · rw [show 16 * (m + 1) - 16 = 16 * m by omega]; exact hnext
                  · rw [List.length_drop, R.len]; omega
                  · rw [List.length_append, symsCells_snoc]; exact hown5
                  · rw [List.length_append, List.map_append]
                    show World.ownsMap _ _ _ _ _ _ (seenD (List.map Sym.name out ++ [nl]))
                    rw [seenD_snoc]
                    exact (hown4.alloc _).kept hgrow5 (fun e => by have := (hlt8 _ e).1; omega)
                  · have := R.few; have := H4.out; simp; omega
            · go_wp2
              go_ret2
              obtain ⟨hb12, hbw2, hval⟩ := Hb2.out
              rw [Hte.out.1] at hval
              have hval : ([], 13) = M := hval
              rw [← hval]
              exact AllPost_err (hbw2.alloc (Nat.le_trans HR.out.1.below.size (by omega)) _)
            · go_wp2
              go_ret2
              obtain ⟨hb12, hbw2, hval⟩ := Hb2.out
              rw [Hte.out.1] at hval
              have hval : ([], 10) = M := hval
              rw [← hval]
              exact AllPost_err (hbw2.alloc (Nat.le_trans HR.out.1.below.size (by omega)) _)
          · go_wp2
            go_ret2
            obtain ⟨hb12, hbw2, hval⟩ := Hb2.out
            have hval : ([], 13) = M := hval
            rw [← hval]
            exact AllPost_err (hbw2.alloc (Nat.le_trans HR.out.1.below.size (by omega)) _)
  · have hm1 : ((n : Int) % 16 != 0) = true := by simp; omega
    have hM : tableM table names sections = ([], 13) := by unfold tableM; rw [if_pos (by omega)]
    rw [hM]
    clear ht hn hl hcp hM
    go_enter Tryz.func168, Tryz.ntmps168
    go_wp2
    go_ret2
    exact ⟨_, rfl, World.ownsRow_nil _ _ _ _, Below.refl _ _⟩

end Go.Proofs.YthhjdkcnkdffcaaGreat.Nl
