/- Package space: Word. -/
import Derived.Laws.Bits64b
import Derived.Test.YtacmjpkcimjjpaaSpR
namespace Go.Proofs.Ytacmjpkcimjjpaa
set_option linter.unusedSimpArgs false
set_option linter.unusedVariables false
open Go.RowKit Go.Maps

/-- The number of bytes, the lowest first. -/
def wordN : List UInt8 → Nat
  | [] => 0
  | x :: r => x.toNat + 256 * wordN r

theorem wordN_lt : ∀ l : List UInt8, wordN l < 256 ^ l.length
  | [] => by simp [wordN]
  | x :: r => by
    have := wordN_lt r
    have hx := x.toNat_lt
    simp only [wordN, List.length_cons, Nat.pow_succ]
    omega

theorem wordN_append : ∀ (l m : List UInt8), wordN (l ++ m) = wordN l + 256 ^ l.length * wordN m
  | [], m => by simp [wordN]
  | x :: r, m => by
    simp only [List.cons_append, wordN, wordN_append r m, List.length_cons, Nat.pow_succ, Nat.mul_add]
    rw [Nat.mul_comm (256 ^ r.length) 256, Nat.mul_assoc]
    omega

theorem wordN_take_succ {l : List UInt8} {k : Nat} {x : UInt8} (h : l[k]? = some x) : wordN (l.take (k + 1)) = wordN (l.take k) + x.toNat * 256 ^ k := by
  have hk : k < l.length := (List.getElem?_eq_some_iff.1 h).1
  rw [List.take_add_one, h, wordN_append]
  simp only [Option.toList_some, wordN, Nat.mul_zero, Nat.add_zero, List.length_take]
  rw [show min k l.length = k from by omega, Nat.mul_comm]

theorem wordN_wordB (n : Nat) : ∀ k, wordN (wordB n k) = n % 256 ^ k
  | 0 => by simp [wordB, wordN, Nat.mod_one]
  | k + 1 => by
    rw [wordB_succ, wordN_append, wordN_wordB n k, wordB_length]
    simp only [wordN, Nat.mul_zero, Nat.add_zero]
    rw [UInt8.toNat_ofNat', show (2 ^ 8 : Nat) = 256 from rfl, Nat.mod_mod, Nat.pow_succ, Nat.mod_mul]

theorem or_step (a x k : Nat) (h : a < 256 ^ k) : a ||| (x * 256 ^ k) = a + x * 256 ^ k := by
  have e : (256 : Nat) ^ k = 2 ^ (8 * k) := by rw [Nat.pow_mul]
  rw [e] at h ⊢
  rw [Nat.or_comm, Nat.mul_comm, ← Nat.two_pow_add_eq_or_of_lt h, Nat.add_comm]

def WordEnd (w : World) (a : Nat) (pgs : List Pg) (e : Ending) (w' : World) : Prop :=
  Below w.heap.size w w' ∧ e = .returned (.tuple #[.int .u64 ((if lookE pgs a 8 1 = 0 then wordN (rdM 8 pgs a 8) else 0 : Nat) : Int), .int .i64 (lookE pgs a 8 1)])

set_option maxHeartbeats 1000000 in
theorem sp_word (w : World) (s b a : Nat) (pgs : List Pg) (h : SpAt w s b pgs) (hlen : pgs.length ≤ 8192) (ha : a < 2 ^ 64) :
    Calls Try.prog 32 #[.pointer (some ⟨s, 0, none⟩), .int .u64 (a : Int)] w (WordEnd w a pgs) := by
  have HR := hid (sp_read w s b a 8 pgs h hlen ha (by decide) (by decide))
  obtain ⟨R, hR⟩ : ∃ R, R = lookE pgs a 8 1 := ⟨_, rfl⟩
  obtain ⟨T, hT⟩ : ∃ T, T = rdM 8 pgs a 8 := ⟨_, rfl⟩
  unfold ReadEnd at HR
  rw [← hR, ← hT] at HR
  unfold WordEnd
  rw [← hR, ← hT]
  obtain ⟨N, hN⟩ : ∃ N, N = if R = 0 then wordN T else 0 := ⟨_, rfl⟩
  rw [← hN]
  have HN := hid hN
  clear h hlen hR hT hN
  go_enter Try.func32, Try.ntmps32
  go_wp2_with fail
  refine HR.out.mono ?_
  rintro e w1 ⟨hb, ⟨hr, rfl⟩ | ⟨hr, p, cap, rfl, hbs⟩⟩
  · have hn0 : N = 0 := by rw [HN.out, if_neg hr]
    have H := hid (And.intro hb hr)
    subst hn0
    clear hb hr
    go_wp2_with fail
    go_loopw [8, 9, 10, 19] (fun n _ _ i wr => n = .int .u64 0 ∧ i = .int .i64 0 ∧ wr = w1) (fun _ _ _ _ _ => 0)
    case atStart => exact ⟨rfl, rfl, rfl⟩
    case round =>
      obtain ⟨rfl, rfl, rfl⟩ := hrel
      go_wp2_with fail
      go_ret2
      exact ⟨H.out.1, rfl⟩
  · subst hr
    have hl : T.length = 8 := hbs.len
    have H := hid (And.intro hb (And.intro hbs hl))
    clear hb hbs hl
    go_wp2_with fail
    go_loopw [8, 9, 10, 19] (fun n _ _ i wr => ∃ k : Nat, k ≤ 8 ∧ n = .int .u64 ((wordN (T.take k) : Nat) : Int) ∧ i = .int .i64 (k : Int) ∧ wr = w1) (fun _ _ _ i _ => 8 - (intOf i).toNat)
    case atStart => exact ⟨0, by omega, by simp [wordN], rfl, rfl⟩
    case round =>
      obtain ⟨k, hk, rfl, rfl, rfl⟩ := hrel
      by_cases hlt : k < 8
      · have hltz : decide ((k : Int) < 8) = true := by rw [decide_eq_true_eq]; omega
        obtain ⟨x, hx⟩ : ∃ x, T[k]? = some x := ⟨_, List.getElem?_eq_getElem (by rw [H.out.2.2]; exact hlt)⟩
        obtain ⟨bb, off, rfl, hcell⟩ := H.out.2.1.at (by decide)
        have c1 := hcell k x hx
        obtain ⟨A, hA⟩ : ∃ A, A = wordN (T.take k) := ⟨_, rfl⟩
        rw [← hA]
        obtain ⟨B, hB⟩ : ∃ B, B = x.toNat * 256 ^ k := ⟨_, rfl⟩
        have hal : A < 256 ^ k := by
          have := wordN_lt (T.take k)
          rw [List.length_take, H.out.2.2, show min k 8 = k from by omega, ← hA] at this
          exact this
        have hp : 256 ^ k * 256 ≤ (18446744073709551616 : Nat) := by
          rw [← Nat.pow_succ]
          exact Nat.pow_le_pow_right (by decide) (show k + 1 ≤ 8 from hlt)
        have hbl : B < 18446744073709551616 := by
          have h1 := x.toNat_lt
          have h2 : x.toNat * 256 ^ k ≤ 255 * 256 ^ k := Nat.mul_le_mul_right _ (by omega)
          have h3 := Nat.pow_pos (n := k) (show 0 < 256 by decide)
          omega
        have hor := bits_or_u64_nat A B (by omega) hbl
        rw [hB, or_step A x.toNat k hal, ← hB] at hor
        have hsh : IntKind.u64.wrap ((x.toNat : Int) * 2 ^ (8 * k)) = (B : Int) := by
          rw [hB, show (2 : Int) ^ (8 * k) = ((256 ^ k : Nat) : Int) from by rw [show (256 : Nat) = 2 ^ 8 from rfl, ← Nat.pow_mul, Int.natCast_pow]; rfl, ← Int.natCast_mul]
          exact IntWalk.u64_in _ (by rw [← hB]; omega)
        have hwx : IntKind.u64.wrap (x.toNat : Int) = (x.toNat : Int) := IntWalk.u64_in _ (by have := x.toNat_lt; omega)
        have hnx : wordN (T.take (k + 1)) = A + B := by rw [wordN_take_succ hx, ← hA, ← hB]
        have HX := hid (And.intro hx hnx)
        clear hx hnx hA hB hal hp hbl
        go_wp2_with fail
        go_roundw
        case rel => exact ⟨k + 1, by omega, by rw [HX.out.2, Int.natCast_add], rfl, trivial⟩
        case measure => simp [intOf]; omega
      · have hltz : decide ((k : Int) < 8) = false := by rw [decide_eq_false_iff_not]; omega
        have hk8 : k = 8 := by omega
        have HF := hid hk8
        clear hk8
        go_wp2_with fail
        go_ret2
        have hNk : N = wordN (T.take k) := by rw [HN.out, if_pos trivial, HF.out, List.take_of_length_le (by rw [H.out.2.2]; exact Nat.le_refl _)]
        rw [hNk]
        exact ⟨H.out.1, rfl⟩
end Go.Proofs.Ytacmjpkcimjjpaa
