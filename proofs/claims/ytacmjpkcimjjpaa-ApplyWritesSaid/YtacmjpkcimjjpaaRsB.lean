/- The reference's Word. -/
import Derived.Test.YtacmjpkcimjjpaaRsA
namespace Go.Proofs.Ytacmjpkcimjjpaa
set_option linter.unusedSimpArgs false
set_option linter.unusedVariables false
open Go.RowKit Go.Maps

def WordOf (w : World) (n : Nat) (e : Ending) (w' : World) : Prop := ∃ v, e = .returned v ∧ OB w' w.heap.size 5 v (wordB n 8) ∧ Below w.heap.size w w'

set_option maxHeartbeats 1000000 in
theorem rs_word (w : World) (n : Nat) (hn : n < 2 ^ 64) : Calls Try.prog 40 #[.int .u64 (n : Int)] w (WordOf w n) := by
  obtain ⟨i0, hrowU⟩ := u8row
  have HU := hid hrowU
  have HN := hid hn
  clear hrowU hn
  go_enter Try.func40, Try.ntmps40
  go_wp2_with fail
  go_loopw [0, 3, 4] (fun nv v i wr => ∃ k : Nat, k ≤ 8 ∧ i = .int .i64 (k : Int) ∧ nv = .int .u64 ((n / 256 ^ k : Nat) : Int) ∧ OB wr w.heap.size 5 v (wordB n k) ∧ Below w.heap.size w wr) (fun _ _ i _ => 8 - (intOf i).toNat)
  case atStart => exact ⟨0, by omega, rfl, by simp, OB.nil _ _ _, Below.refl _ _⟩
  case round =>
    obtain ⟨k, hk, rfl, rfl, hob, hb⟩ := hrel
    obtain ⟨p, cap, rfl⟩ := hob.form
    obtain ⟨m, hm⟩ : ∃ m, m = n / 256 ^ k := ⟨_, rfl⟩
    have hm64 : m < 2 ^ 64 := by rw [hm]; exact Nat.lt_of_le_of_lt (Nat.div_le_self _ _) HN.out
    rw [← hm]
    have hlk : (wordB n k).length = k := wordB_length n k
    have HK := hid (And.intro hob (And.intro hb (And.intro hm hlk)))
    by_cases hlt : k < 8
    · have hltz : decide ((k : Int) < 8) = true := by rw [decide_eq_true_eq]; omega
      have hltn : decide (k < 8) = true := by rw [decide_eq_true_eq]; omega
      obtain ⟨q, hq⟩ : ∃ q, q = m % 256 := ⟨_, rfl⟩
      obtain ⟨d, hd⟩ : ∃ d, d = m / 256 := ⟨_, rfl⟩
      have q1 : (m : Int) % 256 = (q : Int) := by omega
      have q2 : Int.tmod (m : Int) 256 = (q : Int) := by rw [Int.tmod_eq_emod_of_nonneg (by omega)]; exact q1
      have q3 : IntKind.u64.wrap (q : Int) = (q : Int) := IntWalk.u64_in _ (by omega)
      have q4 : IntKind.u8.wrap (q : Int) = (q : Int) := by rw [show IntKind.u8.wrap (q : Int) = (q : Int) % 256 from rfl]; omega
      have d1 : (m : Int) / 256 = (d : Int) := by omega
      have d2 : Int.tdiv (m : Int) 256 = (d : Int) := by rw [Int.tdiv_eq_ediv_of_nonneg (by omega)]; exact d1
      have d3 : IntKind.u64.wrap (d : Int) = (d : Int) := IntWalk.u64_in _ (by omega)
      have HQ := hid (And.intro hq (And.intro hd hm64))
      have hcells : u8s [UInt8.ofNat q] = [.int .u8 (q : Int)] := by
        show [Value.int .u8 (((UInt8.ofNat q).toNat : Nat) : Int)] = _
        rw [UInt8.toNat_ofNat', Nat.mod_eq_of_lt (by omega)]
      have Hc := hid hcells
      clear hq hd hm64 hcells hob hb hm hlk
      go_wp2_with (at_builtin; go_loud (refine wpList_bytes HU.out _ rfl _ _ _ rfl w.heap.size (.slice p (wordB n k).length cap) (wordB n k) rfl (OB.below HK.out.1 ((Below.refl _ _).alloc (Nat.le_refl _) _)) _ [UInt8.ofNat q] rfl ?src ?c1 ?c2 ?_))
      case src => rw [Hc.out]; exact Src.one wr Try.underlying102 _ rfl _
      case c1 => rw [HK.out.2.2.2]; show k + 1 ≤ _; omega
      case c2 => have := HK.out.2.1.size; simp; omega
      intro v' w3 hown hg
      have he : wordB n k ++ [UInt8.ofNat q] = wordB n (k + 1) := by rw [wordB_succ, ← HK.out.2.2.1, ← HQ.out.1]
      rw [he] at hown
      have hb3 : Below w.heap.size w w3 := (HK.out.2.1.alloc HK.out.2.1.size _).trans (hg.below (by have := HK.out.2.1.size; simp; omega) HK.out.1.high)
      obtain ⟨p3, c3, rfl⟩ := hown.form
      have HX := hid (And.intro hown hb3)
      clear hown hg hb3 he
      go_wp2_with fail
      go_roundw
      case rel =>
        refine ⟨k + 1, by omega, by go_num, ?_, HX.out.1, HX.out.2⟩
        rw [HQ.out.2.1, HK.out.2.2.1, Nat.div_div_eq_div_mul, ← Nat.pow_succ]
      case measure => simp [intOf]; omega
    · have hltz : decide ((k : Int) < 8) = false := by rw [decide_eq_false_iff_not]; omega
      have hltn : decide (k < 8) = false := by rw [decide_eq_false_iff_not]; omega
      have hk8 : k = 8 := by omega
      have HF := hid hk8
      clear hk8 hob hb hm hlk hm64
      go_wp2_with fail
      go_ret
      exact ⟨_, rfl, by have := HK.out.1; rw [HF.out] at this ⊢; exact this, HK.out.2.1⟩
end Go.Proofs.Ytacmjpkcimjjpaa
