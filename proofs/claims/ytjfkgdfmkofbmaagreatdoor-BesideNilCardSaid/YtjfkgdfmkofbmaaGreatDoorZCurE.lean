/- The walks of package cursor: the cursor's bytes lie ahead of the cursor. -/
import Derived.Test.YtjfkgdfmkofbmaaGreatDoorProg
import Derived.KernelRfl
import GoSem.Claim
import Derived.Test.YtjfkgdfmkofbmaaGreatDoorZKit
import Derived.Test.YtjfkgdfmkofbmaaGreatDoorZPlain
namespace Go.Proofs.YtjfkgdfmkofbmaaGreatDoor
set_option linter.unusedSimpArgs false
set_option linter.unusedVariables false
open Go.RowKit

/-- A cursor over the bytes l stands in the block c. -/
def CurAt (w : World) (c : Nat) (l : List UInt8) (at_ : Nat) (big failed : Bool) : Prop :=
  ∃ v, BS w v l ∧ (∀ k, inBlk v k → k < c) ∧ at_ ≤ l.length ∧ w.heap[c]? = some (.cells #[v, .int .i64 at_, .bool big, .bool failed] 418 (0, 0))

theorem offB {v : Value} {c : Nat} (h : ∀ k, inBlk v k → k < c) : ¬ inBlk v c := fun hh => Nat.lt_irrefl _ (h _ hh)

theorem sz_u8 (w : World) : (sizeOf (Tryz.prog.elem 72)).run Tryz.prog w = .ok 1 w := by kernel_rfl
theorem un_bs : Tryz.prog.underlying 72 = some (.slice (Tryz.prog.elem 72)) := by kernel_rfl

set_option maxHeartbeats 400000 in
theorem cur_fail (c : Nat) (w : World) (h0 : w.frozen? ⟨c, 3, none⟩ = false) (x : Value) (hx : w.cell? ⟨c, 3, none⟩ = some x) :
    Calls Tryz.prog 277 #[.pointer (some ⟨c, 0, none⟩)] w fun e w' => e = .returned (.tuple #[]) ∧ w' = w.setCell ⟨c, 3, none⟩ (.bool true) := by
  go_enter Tryz.func277, Tryz.ntmps277
  go_wp2
  go_end0
  exact ⟨rfl, rfl⟩

set_option maxHeartbeats 400000 in
theorem cur_well_t (c : Nat) (w : World) (f : Bool) (hx : w.cell? ⟨c, 3, none⟩ = some (.bool f)) :
    Calls Tryz.prog 226 #[.pointer (some ⟨c, 0, none⟩), .bool true] w fun e w' => e = .returned (.bool (!f)) ∧ w = w' := by
  go_enter Tryz.func226, Tryz.ntmps226
  go_wp2
  go_ret
  exact ⟨rfl, rfl⟩

set_option maxHeartbeats 400000 in
theorem cur_well_f (c : Nat) (w : World) (h0 : w.frozen? ⟨c, 3, none⟩ = false) (x : Value) (hx : w.cell? ⟨c, 3, none⟩ = some x) :
    Calls Tryz.prog 226 #[.pointer (some ⟨c, 0, none⟩), .bool false] w fun e w' => e = .returned (.bool false) ∧ w' = w.setCell ⟨c, 3, none⟩ (.bool true) := by
  have hs : (w.setCell ⟨c, 3, none⟩ (.bool true)).cell? ⟨c, 3, none⟩ = some (.bool true) := World.cell?_setCell_same _ _ _ hx
  go_enter Tryz.func226, Tryz.ntmps226
  go_wp2_with (go_at_call 277; refine (cur_fail c _ h0 x hx).mono ?_; rintro e w' ⟨rfl, rfl⟩)
  go_ret
  exact ⟨rfl, rfl⟩

set_option maxHeartbeats 400000 in
theorem cur_left (c : Nat) (w : World) (p : Option Addr) (n cap k : Nat) (hk : k ≤ n) (hn : n ≤ 140737488355328) (h0 : w.cell? ⟨c, 0, none⟩ = some (.slice p n cap)) (h1 : w.cell? ⟨c, 1, none⟩ = some (.int .i64 k)) :
    Calls Tryz.prog 164 #[.pointer (some ⟨c, 0, none⟩)] w fun e w' => e = .returned (.int .i64 (n - k : Int)) ∧ ∃ q, w' = w.drewN q := by
  have hw : IntKind.i64.wrap ((n : Int) - k) = (n : Int) - k := IntWalk.i64_in _ (by omega)
  go_enter Tryz.func164, Tryz.ntmps164
  go_wp2
  go_quiet (fail)
  go_wp2
  go_ret
  exact ⟨rfl, _, rfl⟩

theorem cur_cells {w : World} {c : Nat} {v0 v1 v2 v3 : Value} {t : TypeId} (h : w.heap[c]? = some (.cells #[v0, v1, v2, v3] t (0, 0))) :
    (w.cell? ⟨c, 0, none⟩ = some v0 ∧ w.cell? ⟨c, 1, none⟩ = some v1 ∧ w.cell? ⟨c, 2, none⟩ = some v2 ∧ w.cell? ⟨c, 3, none⟩ = some v3) ∧ ∀ i, w.frozen? ⟨c, i, none⟩ = false :=
  ⟨⟨cell_of_row w c 0 _ t _ h, cell_of_row w c 1 _ t _ h, cell_of_row w c 2 _ t _ h, cell_of_row w c 3 _ t _ h⟩, fun i => frozen_of_row w c i _ t h⟩

theorem grownBy_setCell (w : World) (c i : Nat) (u : Value) : w.grownBy (w.setCell ⟨c, i, none⟩ u) (some c) :=
  ⟨rfl, rfl, rfl, by simp [World.setCell], fun k _ hk => heap_setCell_other w _ k u (fun e => hk (by simp at e; rw [e]))⟩

theorem grownBy_heap {w w1 w2 : World} {r : Option Nat} (h : w.grownBy w1 r) (hh : w2.heap = w1.heap) (ho : w2.os = w1.os) (ht : w2.tape = w1.tape) (hu : w2.output = w1.output) : w.grownBy w2 r :=
  ⟨ho.trans h.os, ht.trans h.tape, hu.trans h.output, by rw [hh]; exact h.size, fun k hk hr => by rw [hh]; exact h.block k hk hr⟩

theorem grownBy_drewN {w w1 : World} {r : Option Nat} (h : w.grownBy w1 r) (q : Nat) : w.grownBy (w1.drewN q) r := grownBy_heap h rfl rfl rfl rfl

theorem CurAt.failed {w : World} {c : Nat} {l : List UInt8} {k : Nat} {big f : Bool} (h : CurAt w c l k big f) : CurAt (w.setCell ⟨c, 3, none⟩ (.bool true)) c l k big true := by
  obtain ⟨v, hv, hb, hk, hc⟩ := h
  exact ⟨v, hv.grown (grownBy_setCell _ _ _ _) (offB hb), hb, hk, by rw [heap_setCell_same _ _ _ _ _ _ hc]; rfl⟩

theorem CurAt.moved {w : World} {c : Nat} {l : List UInt8} {k : Nat} {big f : Bool} (h : CurAt w c l k big f) (k' : Nat) (hk' : k' ≤ l.length) : CurAt (w.setCell ⟨c, 1, none⟩ (.int .i64 k')) c l k' big f := by
  obtain ⟨v, hv, hb, hk, hc⟩ := h
  exact ⟨v, hv.grown (grownBy_setCell _ _ _ _) (offB hb), hb, hk', by rw [heap_setCell_same _ _ _ _ _ _ hc]; rfl⟩

theorem CurAt.heap {w w' : World} {c : Nat} {l : List UInt8} {k : Nat} {big f : Bool} (h : CurAt w c l k big f) (hh : w'.heap = w.heap) : CurAt w' c l k big f := by
  obtain ⟨v, hv, hb, hk, hc⟩ := h
  exact ⟨v, hv.heap hh, hb, hk, by rw [hh]; exact hc⟩

set_option maxHeartbeats 400000 in
theorem cur_take_ok (c : Nat) (w : World) (l : List UInt8) (k n : Nat) (m : Int) (hm : m = n) (big : Bool) (h : CurAt w c l k big false) (hn : k + n ≤ l.length) :
    Calls Tryz.prog 227 #[.pointer (some ⟨c, 0, none⟩), .int .i64 m] w fun e w' =>
      ∃ p' c', e = .returned (.slice p' n c') ∧ BS w' (.slice p' n c') ((l.drop k).take n) ∧ ¬ inBlk (.slice p' n c') c ∧ CurAt w' c l (k + n) big false ∧ w.grownBy w' (some c) := by
  subst hm
  have hmv := h.moved (k + n) hn
  obtain ⟨v, hv, hb, hk, hc⟩ := h
  have hg := grownBy_setCell w c 1 (.int .i64 ((k + n : Nat) : Int))
  have hv2 := hv.grown hg (offB hb)
  obtain ⟨p, cap, rfl, g1, g2, g3⟩ := id hv
  obtain ⟨⟨h0, h1, h2, h3⟩, hf⟩ := cur_cells hc
  have hsub := sub_bs hv2 (lo := k) (hi := k + n) (m := k + n) (by omega) hn (by omega) (by omega)
  have hblk : ¬ inBlk (.slice (subA p k (k + n)) (k + n - k) (k + n - k)) c := fun hh => offB hb (sub_blk (by omega) hn hh)
  have hsl := fun (w : World) => run_sub3 (P := Tryz.prog) (w := w) (t := 72) p l.length cap un_bs (sz_u8 w) .i64 .i64 .i64 k (k + n) (k + n) (by omega) (by omega) (by omega) (by omega)
  simp only [show ((k : Int) + (n : Int)).toNat = k + n from by omega, Int.toNat_natCast] at hsl
  have hw1 : IntKind.i64.wrap ((k : Int) + n) = (k : Int) + n := IntWalk.i64_in _ (by omega)
  have hw2 : IntKind.i64.wrap (k : Int) = (k : Int) := IntWalk.i64_in _ (by omega)
  have hw3 : IntKind.i64.wrap ((k : Int) + n - n) = (k : Int) := by rw [show (k : Int) + n - n = k from by omega]; exact hw2
  have hc0 : (w.setCell ⟨c, 1, none⟩ (.int .i64 ((k : Int) + n))).cell? ⟨c, 0, none⟩ = some (.slice p l.length cap) := (World.cell?_setCell_other _ _ _ _ (by simp)).trans h0
  have hc1 : (w.setCell ⟨c, 1, none⟩ (.int .i64 ((k : Int) + n))).cell? ⟨c, 1, none⟩ = some (.int .i64 ((k : Int) + n)) := World.cell?_setCell_same _ _ _ h1
  have H := hid (And.intro hmv (And.intro hsub (And.intro hblk hg)))
  have hf1 := hf 1
  have hle : decide ((n : Int) ≤ (l.length : Int) - k) = true := by simp; omega
  clear hmv hsub hblk hg hv hv2 hc hb hf g3
  go_enter Tryz.func227, Tryz.ntmps227
  go_wp2_with (first
    | (go_at_call 164; refine (cur_left c _ p l.length cap k hk (by omega) h0 h1).mono ?_; rintro e w' ⟨rfl, q, rfl⟩)
    | (go_at_call 226; refine (cur_well_t c _ false (by exact h3)).mono ?_; rintro e w' ⟨rfl, rfl⟩))
  go_quiet (fail)
  go_wp2
  go_ret
  obtain ⟨hmv, hsub, hblk, hg⟩ := H.out
  rw [Nat.add_sub_cancel_left] at hsub hblk
  rw [Int.natCast_add] at hmv hsub hg
  exact ⟨_, _, rfl, hsub.heap rfl, hblk, hmv.heap rfl, grownBy_heap hg rfl rfl rfl rfl⟩

theorem grownBy_refl (w : World) (r : Option Nat) : w.grownBy w r := ⟨rfl, rfl, rfl, Nat.le_refl _, fun _ _ _ => rfl⟩

set_option maxHeartbeats 400000 in
/-- Out of bounds: nothing is taken. -/
theorem cur_take_out (c : Nat) (w : World) (l : List UInt8) (k : Nat) (n : Int) (big f : Bool) (h : CurAt w c l k big f) (hl : l.length ≤ 140737488355328) (hn : n < 0 ∨ (l.length : Int) - k < n) :
    Calls Tryz.prog 227 #[.pointer (some ⟨c, 0, none⟩), .int .i64 n] w fun e w' =>
      e = .returned (.slice none 0 0) ∧ CurAt w' c l k big true ∧ w.grownBy w' (some c) := by
  have hfl := h.failed
  obtain ⟨v, hv, hb, hk, hc⟩ := h
  obtain ⟨p, cap, rfl, g1, g2, g3⟩ := id hv
  obtain ⟨⟨h0, h1, h2, h3⟩, hf⟩ := cur_cells hc
  have hf3 := hf 3
  have H := hid (And.intro hfl (grownBy_setCell w c 3 (.bool true)))
  clear hfl hv hc hb hf g3
  by_cases hn0 : n < 0
  · have hneg : decide (0 ≤ n) = false := by simp; omega
    go_enter Tryz.func227, Tryz.ntmps227
    go_wp2_with ((go_at_call 226; refine (cur_well_f c _ hf3 _ h3).mono ?_; rintro e w' ⟨rfl, rfl⟩))
    go_ret
    obtain ⟨hfl, hg⟩ := H.out
    exact ⟨rfl, hfl, hg⟩
  · have hle : decide (n ≤ (l.length : Int) - k) = false := by simp; omega
    go_enter Tryz.func227, Tryz.ntmps227
    go_wp2_with (first
      | (go_at_call 164; refine (cur_left c _ p l.length cap k hk (by omega) h0 h1).mono ?_; rintro e w' ⟨rfl, q, rfl⟩)
      | (go_at_call 226; refine (cur_well_f c _ (by exact hf3) _ (by exact h3)).mono ?_; rintro e w' ⟨rfl, rfl⟩))
    go_ret
    obtain ⟨hfl, hg⟩ := H.out
    exact ⟨rfl, hfl.heap rfl, grownBy_heap hg rfl rfl rfl rfl⟩



set_option maxHeartbeats 1000000 in
theorem cur_number_ok (c : Nat) (w : World) (l : List UInt8) (k n : Nat) (m : Int) (hs : m = 1 ∨ m = 2 ∨ m = 4 ∨ m = 8) (hm : m = n) (h : CurAt w c l k false false) (hn : k + n ≤ l.length) :
    Calls Tryz.prog 165 #[.pointer (some ⟨c, 0, none⟩), .int .i64 m] w fun e w' =>
      e = .returned (.int .u64 (leNat ((l.drop k).take n))) ∧ CurAt w' c l (k + n) false false ∧ w.grownBy w' (some c) := by
  have h' := h
  obtain ⟨v, hv, hb, hk, hc⟩ := h
  obtain ⟨⟨h0, h1, h2, h3⟩, hf⟩ := cur_cells hc
  have hn1 : 1 ≤ n := by omega
  have hn8 : n ≤ 8 := by omega
  have H := hid (And.intro h' hn)
  have Hm := hid hm
  clear h' hv hb hc hn hf hk h0 h1 h2 hm
  rcases hs with rfl | rfl | rfl | rfl
  all_goals
    go_enter Tryz.func165, Tryz.ntmps165
    go_wp2_with fail
    refine (cur_well_t c _ false (by exact h3)).mono ?_
    rintro e w' ⟨rfl, rfl⟩
    go_wp2_with fail
    refine (cur_take_ok c _ l k n _ Hm.out false H.out.1 H.out.2).mono ?_
    rintro e w1 ⟨p1, cap1, rfl, hb1, hnb, hc1, hg1⟩
    clear h3
    obtain ⟨L, hL⟩ : ∃ L, L = (l.drop k).take n := ⟨_, rfl⟩
    rw [← hL] at hb1
    have hLn := hb1.len
    obtain ⟨b, off, rfl, hcell⟩ := hb1.at (by omega)
    obtain ⟨v', hv', hnb', hk', hcc⟩ := id hc1
    obtain ⟨⟨-, -, q2, -⟩, -⟩ := cur_cells hcc
    have H1 := hid (And.intro hL (And.intro hLn (And.intro hc1 (And.intro hg1 hcell))))
    clear hL hLn hc1 hg1 hcell hb1 hcc hv' hnb' hnb hk'
    go_wp2_with fail
    go_loop [4, 28] (fun a i => ∃ j : Nat, j ≤ n ∧ i = .int .i64 j ∧ a = .int .u64 (leNat (L.take j))) (fun _ i => n - (intOf i).toNat)
    case atStart => exact ⟨0, Nat.zero_le _, rfl, rfl⟩
    case round =>
      obtain ⟨j, hj, rfl, rfl⟩ := hrel
      by_cases hlt : j < n
      · obtain ⟨x, hx⟩ : ∃ x, L[j]? = some x := ⟨L[j]'(by rw [H1.out.2.1]; exact hlt), List.getElem?_eq_getElem _⟩
        have hcl := H1.out.2.2.2.2 j x hx
        have Hx := hid hx
        clear hx
        go_wp2
        go_round
        case rel =>
          have hlen : (L.take j).length = j := by rw [List.length_take, H1.out.2.1]; omega
          have hlt8 := leNat_lt (L.take j)
          rw [hlen] at hlt8
          exact ⟨j + 1, by omega, by go_num, by rw [or_shl _ _ j (by omega) hlt8 x.toNat_lt, take_snoc Hx.out, leNat_snoc, hlen]⟩
        case measure => simp [intOf]; omega
      · go_wp2
        go_ret
        obtain ⟨hL, hLn, hc1, hg1, hcell⟩ := H1.out
        obtain rfl : j = n := by omega
        refine ⟨?_, hc1, hg1⟩
        show Ending.returned (Value.int IntKind.u64 ↑(leNat (List.take j L))) = _
        rw [← hL, List.take_of_length_le (by omega)]

end Go.Proofs.YtjfkgdfmkofbmaaGreatDoor

namespace Go.Proofs.YtjfkgdfmkofbmaaGreatDoor
set_option linter.unusedSimpArgs false
set_option linter.unusedVariables false

/-- A cursor's place; has it failed? -/
structure Cu where
  at_ : Nat
  bad : Bool

/-- A group's bits. -/
def grp (x : UInt8) : Nat := x.toNat % 128
theorem grp_lt (x : UInt8) : grp x < 128 := Nat.mod_lt _ (by omega)

/-- The number ahead, and how many bytes it has, group by group. -/
def ulebF : Nat → List UInt8 → Nat → Nat → Option (Nat × Nat)
  | 0, _, _, _ => none
  | _ + 1, [], _, _ => none
  | f + 1, x :: r, i, n =>
    if i = 9 ∧ 1 < grp x then none
    else if x.toNat < 128 then some (n + grp x * 128 ^ i, i + 1)
    else ulebF f r (i + 1) (n + grp x * 128 ^ i)

def ulebM (b : List UInt8) : Option (Nat × Nat) := ulebF 10 b 0 0

/-- As the reference has it: where the number ends. -/
def sizeF : Nat → List UInt8 → Nat → Nat
  | 0, _, _ => 0
  | _ + 1, [], _ => 0
  | f + 1, x :: r, i => if x.toNat < 128 then i + 1 else sizeF f r (i + 1)
def sizeM (b : List UInt8) : Nat := sizeF 10 b 0

/-- The groups' number, the last group first. -/
def valM : List UInt8 → Nat
  | [] => 0
  | x :: r => grp x + 128 * valM r

theorem valM_lt (l : List UInt8) : valM l < 128 ^ l.length := by
  induction l with
  | nil => simp [valM]
  | cons x r ih =>
    have := grp_lt x
    simp only [valM, List.length_cons, Nat.pow_succ]
    omega

theorem sizeF_le : ∀ (f : Nat) (b : List UInt8) (i : Nat), sizeF f b i = 0 ∨ (i < sizeF f b i ∧ sizeF f b i ≤ i + f ∧ sizeF f b i ≤ i + b.length)
  | 0, _, _ => .inl rfl
  | _ + 1, [], _ => .inl rfl
  | f + 1, x :: r, i => by
    rw [sizeF]
    split
    · right; simp only [List.length_cons]; omega
    · rcases sizeF_le f r (i + 1) with h | ⟨h1, h2, h3⟩
      · exact .inl h
      · right; simp only [List.length_cons]; omega

theorem sizeM_le (b : List UInt8) : sizeM b ≤ 10 ∧ sizeM b ≤ b.length := by
  unfold sizeM
  rcases sizeF_le 10 b 0 with h | ⟨h1, h2, h3⟩ <;> omega

/-- What the groups' number is, by where it ends. -/
theorem ulebF_size : ∀ (f : Nat) (b : List UInt8) (i n : Nat), f + i = 10 → n < 128 ^ i →
    ulebF f b i n = if sizeF f b i = 0 then none else if n + 128 ^ i * valM (b.take (sizeF f b i - i)) < 2 ^ 64 then some (n + 128 ^ i * valM (b.take (sizeF f b i - i)), sizeF f b i) else none
  | 0, _, _, _, _, _ => rfl
  | _ + 1, [], _, _, _, _ => rfl
  | f + 1, x :: r, i, n, hf, hn => by
    have hg := grp_lt x
    have hp : 128 ^ (i + 1) = 128 ^ i * 128 := by rw [Nat.pow_succ]
    rw [ulebF, sizeF]
    by_cases hx : x.toNat < 128
    · have e1 : i + 1 - i = 1 := by omega
      have e0 : ¬ i + 1 = 0 := by omega
      have e2 : valM ((x :: r).take 1) = grp x := by simp [valM]
      simp only [hx, if_true, e0, if_false, e1, e2]
      rw [Nat.mul_comm (128 ^ i)]
      by_cases h9 : i = 9
      · subst h9
        have h128 : (128 : Nat) ^ 9 = 9223372036854775808 := by decide
        rw [h128] at hn ⊢
        by_cases hgx : 1 < grp x
        · rw [if_pos ⟨rfl, hgx⟩, if_neg (by omega)]
        · rw [if_neg (by omega), if_pos (by omega)]
      · have hi : 128 ^ i * 128 ≤ 128 ^ 9 := by rw [← Nat.pow_succ]; exact Nat.pow_le_pow_right (by omega) (by omega)
        have h128 : (128 : Nat) ^ 9 = 9223372036854775808 := by decide
        have hm : grp x * 128 ^ i ≤ 127 * 128 ^ i := Nat.mul_le_mul_right _ (by omega)
        rw [if_neg (by omega), if_pos (by omega)]
    · simp only [hx, if_false]
      have hn' : n + grp x * 128 ^ i < 128 ^ (i + 1) := by
        have hm : grp x * 128 ^ i ≤ 127 * 128 ^ i := Nat.mul_le_mul_right _ (by omega)
        omega
      by_cases h9 : i = 9
      · subst h9
        obtain rfl : f = 0 := by omega
        simp [ulebF, sizeF]
      · rw [if_neg (by omega), ulebF_size f r (i + 1) _ (by omega) hn']
        rcases sizeF_le f r (i + 1) with h0 | ⟨h1, h2, h3⟩
        · rw [h0]; simp
        · obtain ⟨k, hk⟩ : ∃ k, sizeF f r (i + 1) = i + 1 + k + 1 := ⟨sizeF f r (i + 1) - i - 2, by omega⟩
          rw [hk]
          have e1 : i + 1 + k + 1 - (i + 1) = k + 1 := by omega
          have e2 : i + 1 + k + 1 - i = k + 2 := by omega
          rw [e1, e2]
          have e3 : valM ((x :: r).take (k + 2)) = grp x + 128 * valM (r.take (k + 1)) := rfl
          rw [e3, hp]
          have e4 : n + grp x * 128 ^ i + 128 ^ i * 128 * valM (r.take (k + 1)) = n + 128 ^ i * (grp x + 128 * valM (r.take (k + 1))) := by
            rw [Nat.mul_add, Nat.mul_comm (grp x), ← Nat.mul_assoc, ← Nat.add_assoc]
          rw [e4]

theorem ulebM_size (b : List UInt8) : ulebM b = if sizeM b = 0 then none else if valM (b.take (sizeM b)) < 2 ^ 64 then some (valM (b.take (sizeM b)), sizeM b) else none := by
  have h := ulebF_size 10 b 0 0 rfl (by simp)
  simp only [Nat.pow_zero, Nat.one_mul, Nat.zero_add, Nat.sub_zero] at h
  exact h

theorem ulebM_lt {b : List UInt8} {n k : Nat} (h : ulebM b = some (n, k)) : n < 2 ^ 64 ∧ 1 ≤ k ∧ k ≤ 10 ∧ k ≤ b.length := by
  rw [ulebM_size] at h
  have hs := sizeM_le b
  split at h
  · cases h
  · split at h
    · rename_i h0 h1
      cases h
      exact ⟨h1, by omega, hs.1, hs.2⟩
    · cases h

/-- A number at a cursor's place: 0 where none stands there, and then it has failed. -/
def numC (l : List UInt8) (s : Cu) : Nat × Cu :=
  if s.bad then (0, s)
  else match ulebM (l.drop s.at_) with
    | some (n, k) => (n, ⟨s.at_ + k, false⟩)
    | none => (0, ⟨s.at_, true⟩)

/-- A text at a cursor's place, of at most so many bytes. -/
def textC (l : List UInt8) (most : Nat) (s : Cu) : List UInt8 × Cu :=
  if s.bad then ([], s)
  else if nul (l.drop s.at_) < (l.drop s.at_).length ∧ nul (l.drop s.at_) ≤ most then ((l.drop s.at_).take (nul (l.drop s.at_)), ⟨s.at_ + nul (l.drop s.at_) + 1, false⟩)
  else ([], ⟨s.at_, true⟩)

theorem numC_le {l : List UInt8} {s : Cu} (h : s.at_ ≤ l.length) : (numC l s).2.at_ ≤ l.length := by
  unfold numC
  split
  · exact h
  · cases hu : ulebM (l.drop s.at_) with
    | none => exact h
    | some p =>
      obtain ⟨n, k⟩ := p
      have := (ulebM_lt hu).2.2.2
      rw [List.length_drop] at this
      show s.at_ + k ≤ l.length
      omega

theorem textC_le {l : List UInt8} {most : Nat} {s : Cu} (h : s.at_ ≤ l.length) : (textC l most s).2.at_ ≤ l.length := by
  unfold textC
  split
  · exact h
  · split
    · rename_i h1 h2
      rw [List.length_drop] at h2
      show s.at_ + nul (l.drop s.at_) + 1 ≤ l.length
      omega
    · exact h

end Go.Proofs.YtjfkgdfmkofbmaaGreatDoor
