/- Package leb: a group. -/
import Derived.Test.YthhjdkcnkdffcaaGreatZCurB
import Derived.Test.YthhjdkcnkdffcaaGreatZLebM
import Derived.WalkMore
namespace Go.Proofs.YthhjdkcnkdffcaaGreat
set_option linter.unusedSimpArgs false
set_option linter.unusedVariables false
open Go.RowKit
theorem or_shl7 (A x j : Nat) (hj : j ≤ 9) (hA : A < 128 ^ j) (hx : x < 128) (h : ¬ (j = 9 ∧ 1 < x)) :
    bits BinOp.or IntKind.u64 (A : Int) (IntKind.u64.wrap ((x : Int) * 2 ^ (7 * j))) = ((A + x * 128 ^ j : Nat) : Int) := by
  have hp : (128 : Nat) ^ j = 2 ^ (7 * j) := by rw [Nat.pow_mul]
  have hb : x * 2 ^ (7 * j) < 2 ^ 64 := by
    by_cases h9 : j = 9
    · subst h9
      have : x ≤ 1 := by omega
      have h2 : x * 2 ^ (7 * 9) ≤ 1 * 2 ^ (7 * 9) := Nat.mul_le_mul_right _ this
      exact Nat.lt_of_le_of_lt h2 (by rw [Nat.one_mul]; exact Nat.pow_lt_pow_right (by omega) (by omega))
    · have h1 : x * 2 ^ (7 * j) < 2 ^ 7 * 2 ^ (7 * j) := Nat.mul_lt_mul_of_pos_right (by omega) (Nat.two_pow_pos _)
      have h2 : (2 : Nat) ^ 7 * 2 ^ (7 * j) ≤ 2 ^ 64 := by rw [← Nat.pow_add]; exact Nat.pow_le_pow_right (by omega) (by omega)
      omega
  rw [hp] at hA ⊢
  have hA' : A < 2 ^ 64 := Nat.lt_of_lt_of_le hA (Nat.pow_le_pow_right (by omega) (by omega))
  have e2 : (x : Int) * 2 ^ (7 * j) = ((x * 2 ^ (7 * j) : Nat) : Int) := by simp
  have e3 : IntKind.u64.wrap ((x * 2 ^ (7 * j) : Nat) : Int) = ((x * 2 ^ (7 * j) : Nat) : Int) := IntWalk.u64_in _ (by omega)
  rw [e2, e3]
  rw [or_u64 _ _ hA' hb, or_add A x (7 * j) hA]
set_option maxHeartbeats 1000000 in
theorem uleb_group (w : World) (nb i b n : Nat) (hi : i ≤ 9) (hb : b < 128) (hn : n < 128 ^ i) (hx : w.cell? ⟨nb, 0, none⟩ = some (.int .u64 (n : Nat))) (hf : w.frozen? ⟨nb, 0, none⟩ = false) :
    Calls Tryz.prog 134 #[.int .i64 (i : Nat), .int .u8 (b : Nat), .pointer (some ⟨nb, 0, none⟩)] w fun e w' =>
      e = .returned (.bool (decide (i < 9) || decide (b ≤ 1))) ∧ ∃ (x : Int) (q : Nat), w' = (w.setCell ⟨nb, 0, none⟩ (.int .u64 x)).drewN q ∧ (¬ (i = 9 ∧ 1 < b) → x = ((n + b * 128 ^ i : Nat) : Int)) := by
  have hw : IntKind.i64.wrap (7 * (i : Int)) = 7 * (i : Int) := IntWalk.i64_in _ (by omega)
  have hneg : ¬ 7 * (i : Int) < 0 := by omega
  have hb1 : decide ((b : Int) ≤ 1) = decide (b ≤ 1) := decide_eq_decide.2 (by omega)
  by_cases h9 : i < 9
  · have hd : decide ((i : Int) < 9) = true := by simp; omega
    go_enter Tryz.func134, Tryz.ntmps134
    go_wp2_with fail
    go_region
    go_wp2
    go_ret
    exact ⟨by rw [decide_eq_true h9]; rfl, _, 1, rfl, fun h => or_shl7 n b i hi hn hb h⟩
  · obtain rfl : i = 9 := by omega
    go_enter Tryz.func134, Tryz.ntmps134
    go_wp2_with fail
    go_region
    go_wp2
    go_ret
    refine ⟨by rw [decide_eq_false h9, ← hb1]; rfl, _, 1, rfl, fun h => ?_⟩
    have := or_shl7 n b 9 hi hn hb (fun hh => h ⟨trivial, hh.2⟩)
    exact this
end Go.Proofs.YthhjdkcnkdffcaaGreat

namespace Go.Proofs.YthhjdkcnkdffcaaGreat
set_option linter.unusedSimpArgs false
set_option linter.unusedVariables false
open Go.RowKit
theorem noGoto_ret (Q : Exit → Act → World → Prop) (a : Act) (w : World) : Exit.noGoto Q Exit.ret a w = Q Exit.ret a w := rfl
theorem and127 : ∀ x : Fin 256, bits BinOp.and IntKind.u8 (x.val : Int) 127 = ((x.val % 128 : Nat) : Int) := by decide +kernel
theorem and128 : ∀ x : Fin 256, (bits BinOp.and IntKind.u8 (x.val : Int) 128 == 0) = decide (x.val < 128) := by decide +kernel
theorem BS.setOther {w : World} {v : Value} {l : List UInt8} (h : BS w v l) {a : Addr} {n : Int} (ha : w.cell? a = some (.int .u64 n)) (u : Value) : BS (w.setCell a u) v l := by
  obtain ⟨p, cap, rfl, g1, g2, g3⟩ := h
  refine ⟨p, cap, rfl, g1, g2, fun hne => ?_⟩
  obtain ⟨b, off, rfl, hc⟩ := g3 hne
  refine ⟨b, off, rfl, fun i x hx => ?_⟩
  have h1 := hc i x hx
  rw [World.cell?_setCell_other _ _ _ _ (fun e => by rw [e] at ha; rw [h1] at ha; cases ha)]
  exact h1
theorem CurAt.set64 {w : World} {c k nb : Nat} {l : List UInt8} {big f : Bool} (h : CurAt w c l k big f) {n : Int} (ha : w.cell? ⟨nb, 0, none⟩ = some (.int .u64 n)) (u : Value) : nb ≠ c ∧ CurAt (w.setCell ⟨nb, 0, none⟩ u) c l k big f := by
  obtain ⟨v, hv, hb, hk, hc⟩ := h
  have hne : nb ≠ c := by
    rintro rfl
    obtain ⟨p, cap, rfl, _⟩ := id hv
    have := (cur_cells hc).1.1
    rw [ha] at this; cases this
  exact ⟨hne, v, hv.setOther ha u, hb, hk, by rw [heap_setCell_other w _ c u (by simpa using Ne.symm hne)]; exact hc⟩
/-- What stands when i groups are read, their number n. -/
structure GrAt (w0 wr : World) (c nb : Nat) (l : List UInt8) (k i n : Nat) : Prop where
  cur : CurAt wr c l (k + i) false false
  cell : wr.cell? ⟨nb, 0, none⟩ = some (.int .u64 (n : Nat))
  own : wr.frozen? ⟨nb, 0, none⟩ = false
  lt : n < 128 ^ i
  eq : ulebM (l.drop k) = ulebF (10 - i) (l.drop (k + i)) i n
  grown : w0.grownBy wr (some c)
/-- What a call of groups brings about. -/
def GrEnd (w0 w' : World) (c nb : Nat) (l : List UInt8) (k : Nat) (b : Bool) : Prop :=
  w0.grownBy w' (some c) ∧
  match ulebM (l.drop k) with
  | some (n, sz) => b = true ∧ CurAt w' c l (k + sz) false false ∧ w'.cell? ⟨nb, 0, none⟩ = some (.int .u64 (n : Nat))
  | none => b = false ∧ CurAt w' c l k false true
end Go.Proofs.YthhjdkcnkdffcaaGreat

namespace Go.Proofs.YthhjdkcnkdffcaaGreat
set_option linter.unusedSimpArgs false
set_option linter.unusedVariables false
open Go.RowKit
set_option maxHeartbeats 2000000 in
theorem leb_groups_bad (w : World) (c nb k : Nat) (l : List UInt8) (hl : l.length ≤ 140737488355328) (hcu : CurAt w c l k false true) (het : ET w) :
    Calls Tryz.prog 133 #[.pointer (some ⟨c, 0, none⟩), .func (.func 134) #[] #[.pointer (some ⟨nb, 0, none⟩)]] w fun e w' =>
      e = .returned (.bool false) ∧ CurAt w' c l k false true ∧ w.grownBy w' (some c) := by
  obtain ⟨p, cap, h0, h1, h3, hf3, hk⟩ : ∃ p cap, w.cell? ⟨c, 0, none⟩ = some (.slice p l.length cap) ∧ w.cell? ⟨c, 1, none⟩ = some (.int .i64 k) ∧ w.cell? ⟨c, 3, none⟩ = some (.bool true) ∧ w.frozen? ⟨c, 3, none⟩ = false ∧ k ≤ l.length := by
    obtain ⟨v, hv, hb, hk, hc⟩ := hcu
    obtain ⟨p, cap, rfl, _⟩ := id hv
    exact ⟨p, cap, (cur_cells hc).1.1, (cur_cells hc).1.2.1, (cur_cells hc).1.2.2.2, (cur_cells hc).2 3, hk⟩
  have H := hid (And.intro hcu het)
  clear hcu het
  by_cases hat : k = l.length
  · have hd0 : ((l.length : Int) - (k : Int) == 0) = true := by rw [beq_iff_eq]; omega
    clear hat
    go_enter Tryz.func133, Tryz.ntmps133
    go_wp2_with fail
    go_step3
    go_wp2_with ((go_at_call 123; refine (cur_at c _ k h1).mono ?_; rintro e w' ⟨rfl, rfl⟩))
    go_step3
    go_wp2_with fail
    refine wp_loop_rounds 1 ?_
    rw [rounds_succ]
    go_wp2_with fail
    refine (cur_left c _ p l.length cap k hk hl h0 h1).mono ?_
    rintro e w1 ⟨rfl, q, rfl⟩
    go_wp2_with fail
    refine (cur_seek_bad c (w'.drewN q) l _ k (k : Int) false (H.out.1.heap rfl) rfl hk).mono ?_
    rintro e wa ⟨rfl, rfl⟩
    go_wp2_with fail
    refine (cur_fail c _ (by exact hf3) _ (by exact h3)).mono ?_
    rintro e wb ⟨rfl, rfl⟩
    go_wp2
    rw [noGoto_ret]
    go_ret
    exact ⟨rfl, CurAt.failed (H.out.1.heap rfl), grownBy_heap (grownBy_setCell w' c 3 (.bool true)) rfl rfl rfl rfl⟩
  · have hd0 : ((l.length : Int) - (k : Int) == 0) = false := by rw [beq_eq_false_iff_ne]; omega
    clear hat
    go_enter Tryz.func133, Tryz.ntmps133
    go_wp2_with fail
    go_step3
    go_wp2_with ((go_at_call 123; refine (cur_at c _ k h1).mono ?_; rintro e w' ⟨rfl, rfl⟩))
    go_step3
    go_wp2_with fail
    refine wp_loop_rounds 1 ?_
    rw [rounds_succ]
    go_wp2_with fail
    refine (cur_left c _ p l.length cap k hk hl h0 h1).mono ?_
    rintro e w1 ⟨rfl, q, rfl⟩
    go_wp2_with fail
    refine (cur_num1_bad c (w'.drewN q) l k (H.out.1.heap rfl)).mono ?_
    rintro e wa ⟨rfl, rfl⟩
    go_wp2_with fail
    refine (cur_err c (w'.drewN q) l k false true (H.out.1.heap rfl) (H.out.2.heap rfl)).mono ?_
    rintro e wb ⟨rfl, hb⟩
    go_wp2
    rw [noGoto_ret]
    go_ret
    exact ⟨rfl, CurAt.below (w := w'.drewN q) (H.out.1.heap rfl) hb, (grownBy_heap (w := w') (w1 := w') (grownBy_refl _ _) rfl rfl rfl rfl : w'.grownBy (w'.drewN q) (some c)) |> fun h => grownBy_tr h (Below.all hb _)⟩
end Go.Proofs.YthhjdkcnkdffcaaGreat
