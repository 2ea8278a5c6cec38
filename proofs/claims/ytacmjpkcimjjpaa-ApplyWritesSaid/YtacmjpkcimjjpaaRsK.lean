/- The reference's Look: the walk. -/
import Derived.Test.YtacmjpkcimjjpaaRsL
namespace Go.Proofs.Ytacmjpkcimjjpaa
set_option linter.unusedSimpArgs false
set_option linter.unusedVariables false
open Go.RowKit Go.Maps

theorem lackB_succ (p q : Int) (j : Nat) : lackB p q (j + 1) = (lackB p q j || (p / 2 ^ j % 2 == 1 && q / 2 ^ j % 2 == 0)) := by
  unfold lackB
  rw [List.range_succ, List.any_append]
  simp

theorem quo_facts (p : Int) (hp : 0 ≤ p ∧ p ≤ 7) (b : Int) (hb : b = 1 ∨ b = 2 ∨ b = 4) : ∃ c d : Int, p / b = c ∧ p.tdiv b = c ∧ IntKind.i64.wrap c = c ∧ c % 2 = d ∧ c.tmod 2 = d ∧ IntKind.i64.wrap d = d := by
  refine ⟨p / b, p / b % 2, rfl, Int.tdiv_eq_ediv_of_nonneg hp.1, IntWalk.i64_in _ ?_, rfl, Int.tmod_eq_emod_of_nonneg ?_, IntWalk.i64_in _ ?_⟩ <;> rcases hb with rfl | rfl | rfl <;> omega

def e19 (b : Bool) : Int := if b then 19 else 0

set_option maxHeartbeats 4000000 in
theorem rs_look (n0 : Nat) (w : World) (r : Nat) (vA vB vP : Value) (pgs : List Pg) (h : RSp n0 w r vA vB vP pgs) (hl : pgs.length ≤ 8192) (hpr : ∀ g ∈ pgs, 0 ≤ g.prot ∧ g.prot ≤ 7) (a z : Nat) (p : Int) (ha : a < 2 ^ 64) (hz0 : 0 < z) (hz : z ≤ 33554432) (hp : 0 ≤ p ∧ p ≤ 7) :
    Calls Try.prog 52 #[.pointer (some ⟨r, 0, none⟩), .int .u64 (a : Int), .int .u64 (z : Int), .int .i64 p] w fun e w' => e = .returned (.int .i64 (lookE pgs a z p)) ∧ w = w' := by
  obtain ⟨pp, pc, rfl⟩ := ownsRow_form h.p
  obtain ⟨N, hN⟩ : ∃ N, N = pgs.length := ⟨_, rfl⟩
  rw [← hN] at h
  have hd0 : ((z : Int) == 0) = false := by rw [beq_eq_false_iff_ne]; omega
  have hd9 : decide (33554432 < (z : Int)) = false := by rw [decide_eq_false_iff_not]; omega
  have c2 : w.cell? ⟨r, 2, none⟩ = some (.slice pp N pc) := h.row.cell 2
  have HIN := hid (fun w => rs_in w a z ha (by omega))
  obtain ⟨R, hR⟩ : ∃ R, R = lookE pgs a z p := ⟨_, rfl⟩
  rw [← hR]
  cases hin : inB a z with
  | false =>
    have hR4 : R = 4 := by rw [hR]; unfold lookE; rw [hin]; rfl
    have H := hid (And.intro hin hR4)
    clear h hR hR4 hin hN
    go_enter Try.func52, Try.ntmps52
    go_wp2_with fail
    refine (HIN.out w).mono ?_
    rintro e w1 ⟨rfl, rfl⟩
    rw [H.out.1]
    go_wp2_with fail
    go_ret
    rw [H.out.2]
    exact ⟨rfl, rfl⟩
  | true =>
    have hle := inB_le hin
    have HHAS := hid (fun a' (ha' : a' < 2 ^ 64) => rs_has n0 w r vA vB (.slice pp N pc) pgs (by rw [hN] at h ⊢; exact h) hl a' ha')
    have H := hid (And.intro h (And.intro hin (And.intro hR (And.intro hN (And.intro hpr (And.intro hp hl))))))
    clear h hR hin hN hpr hl
    go_enter Try.func52, Try.ntmps52
    go_wp2_with fail
    refine (HIN.out w).mono ?_
    rintro e w1 ⟨rfl, rfl⟩
    rw [H.out.2.1]
    go_wp2_with fail
    go_loop [9, 10] (fun e i => ∃ n : Nat, n ≤ z ∧ i = .int .u64 (n : Int) ∧ e = .int .i64 (e19 (lackN pgs p a z n)) ∧ seenN pgs a n) (fun _ i => z - (intOf i).toNat)
    case atStart => exact ⟨0, Nat.zero_le _, rfl, rfl, fun h => absurd h (by omega)⟩
    case round =>
      obtain ⟨n, hn, rfl, rfl, hseen⟩ := hrel
      have HS := hid hseen
      clear hseen
      by_cases hlt : n < z
      · have hltz : decide ((n : Int) < (z : Int)) = true := by rw [decide_eq_true_eq]; omega
        have hltn : decide (n < z) = true := by rw [decide_eq_true_eq]; omega
        have hw1 : IntKind.u64.wrap ((n : Int) + 1) = ((n + 1 : Nat) : Int) := (IntWalk.u64_in _ (by omega)).trans (by omega)
        obtain ⟨A, hA⟩ : ∃ A, A = a + n := ⟨_, rfl⟩
        have hwA : IntKind.u64.wrap ((a : Int) + (n : Int)) = (A : Int) := (IntWalk.u64_in _ (by omega)).trans (by omega)
        obtain ⟨M, hM⟩ : ∃ M, M = A % 4096 := ⟨_, rfl⟩
        have hm1 : (A : Int) % 4096 = (M : Int) := by omega
        have hm2 : Int.tmod (A : Int) 4096 = (M : Int) := by rw [Int.tmod_eq_emod_of_nonneg (by omega)]; exact hm1
        have hm3 : IntKind.u64.wrap (M : Int) = (M : Int) := IntWalk.u64_in _ (by omega)
        by_cases hv : n = 0 ∨ M = 0 ∨ n + 1 = z
        · have HV := hid (And.intro hv (And.intro hM hA))
          have hA64 : A < 2 ^ 64 := by omega
          have hcase : (n = 0) ∨ (0 < n ∧ n + 1 = z) ∨ (0 < n ∧ n + 1 < z ∧ M = 0) := by omega
          have hgs : ((decide ((0 : Int) < (n : Int)) = false ∧ decide (0 < n) = false)) ∨ ((decide ((0 : Int) < (n : Int)) = true ∧ decide (0 < n) = true) ∧ (decide (((n + 1 : Nat) : Int) < (z : Int)) = false ∧ decide (n + 1 < z) = false ∧ decide ((n : Int) + 1 < (z : Int)) = false)) ∨
              ((decide ((0 : Int) < (n : Int)) = true ∧ decide (0 < n) = true) ∧ (decide (((n + 1 : Nat) : Int) < (z : Int)) = true ∧ decide (n + 1 < z) = true ∧ decide ((n : Int) + 1 < (z : Int)) = true) ∧ ((M : Int) != 0) = false ∧ (M != 0) = false) := by
            rcases hcase with h | h | h
            · exact .inl ⟨decide_eq_false (by omega), decide_eq_false (by omega)⟩
            · exact .inr (.inl ⟨⟨decide_eq_true (by omega), decide_eq_true (by omega)⟩, decide_eq_false (by omega), decide_eq_false (by omega), decide_eq_false (by omega)⟩)
            · exact .inr (.inr ⟨⟨decide_eq_true (by omega), decide_eq_true (by omega)⟩, ⟨decide_eq_true (by omega), decide_eq_true (by omega), decide_eq_true (by omega)⟩, by rw [h.2.2]; rfl, by rw [h.2.2]; rfl⟩)
          have HH := hid (HHAS.out A hA64)
          clear hcase hv hM hA hA64
          cases hg : pgAt pgs (A / 4096) with
          | none =>
            have hm := has_none hg
            have hR4 : R = 4 := by rw [H.out.2.2.1]; exact lookE_miss H.out.2.1 hlt (by rw [← HV.out.2.2]; exact hg)
            have HX := hid (And.intro hm hR4)
            clear hg hm hR4
            rcases hgs with ⟨g1, g2⟩ | ⟨⟨g1, g2⟩, g3, g4, g5⟩ | ⟨⟨g1, g2⟩, ⟨g3, g4, g5⟩, g6, g7⟩
            all_goals
              go_wp2_with fail
              refine HH.out.mono ?_
              rintro e w1 ⟨rfl, rfl⟩
              rw [HX.out.1]
              go_wp2_with fail
              go_ret
              rw [HX.out.2]
              exact ⟨rfl, rfl⟩
          | some g =>
            obtain ⟨i, hi, hm⟩ := has_some hg
            have hin : i < N := by rw [H.out.2.2.2.1]; exact (List.getElem?_eq_some_iff.1 hi).1
            have hii : decide ((i : Int) < 0) = false := decide_eq_false (by omega)
            obtain ⟨gb, rfl, -, -, hcell⟩ := own_cell (by have := H.out.1.p; rw [← H.out.2.2.2.1] at this; exact this) (by omega)
            have cp := hcell i (.int .i64 g.prot) (by simp [pCells, hi])
            have hgp := H.out.2.2.2.2.1 g (List.mem_of_getElem? hi)
            have hstep : lackN pgs p a z (n + 1) = (lackN pgs p a z n || lackP p g.prot) := by
              rw [lackN_see hlt (by rw [← HV.out.2.2, ← HV.out.2.1]; exact HV.out.1), ← HV.out.2.2]
              unfold lackAt; rw [hg]
            have hsee : seenN pgs a (n + 1) := seenN_see HS.out (by rw [← HV.out.2.2, hg]; rfl)
            obtain ⟨E, hE⟩ : ∃ E, E = lackN pgs p a z n := ⟨_, rfl⟩
            obtain ⟨q, hq⟩ : ∃ q, q = g.prot := ⟨_, rfl⟩
            rw [← hE] at hstep ⊢
            rw [← hq] at cp hgp hstep
            have HX := hid (And.intro hm (And.intro hstep (And.intro hsee (And.intro hgp (And.intro hE hq)))))
            obtain ⟨a1, b1, pa1, pa2, pa3, pa4, pa5, pa6⟩ := quo_facts p hp 1 (.inl rfl)
            obtain ⟨a2, b2, pb1, pb2, pb3, pb4, pb5, pb6⟩ := quo_facts p hp 2 (.inr (.inl rfl))
            obtain ⟨a4, b4, pc1, pc2, pc3, pc4, pc5, pc6⟩ := quo_facts p hp 4 (.inr (.inr rfl))
            obtain ⟨x1, y1, qa1, qa2, qa3, qa4, qa5, qa6⟩ := quo_facts q hgp 1 (.inl rfl)
            obtain ⟨x2, y2, qb1, qb2, qb3, qb4, qb5, qb6⟩ := quo_facts q hgp 2 (.inr (.inl rfl))
            obtain ⟨x4, y4, qc1, qc2, qc3, qc4, qc5, qc6⟩ := quo_facts q hgp 4 (.inr (.inr rfl))
            clear hg hm hi hcell hstep hsee hgp hE hq
            have hB0 : lackB p q 0 = false := rfl
            have hB1 : lackB p q 1 = (lackB p q 0 || (b1 == 1 && y1 == 0)) := by rw [lackB_succ, ← pa4, ← pa1, ← qa4, ← qa1]; rfl
            have hB2 : lackB p q 2 = (lackB p q 1 || (b2 == 1 && y2 == 0)) := by rw [lackB_succ, ← pb4, ← pb1, ← qb4, ← qb1]; rfl
            have hB3 : lackB p q 3 = (lackB p q 2 || (b4 == 1 && y4 == 0)) := by rw [lackB_succ, ← pc4, ← pc1, ← qc4, ← qc1]; rfl
            have HB := hid (And.intro hB0 (And.intro hB1 (And.intro hB2 hB3)))
            clear hB0 hB1 hB2 hB3
            rcases hgs with ⟨g1, g2⟩ | ⟨⟨g1, g2⟩, g3, g4, g5⟩ | ⟨⟨g1, g2⟩, ⟨g3, g4, g5⟩, g6, g7⟩
            all_goals
              go_wp2_with fail
              refine HH.out.mono ?_
              rintro e w1 ⟨rfl, rfl⟩
              rw [HX.out.1]
              go_wp2_with fail
              go_loop [9, 12] (fun e b => ∃ j : Nat, j ≤ 3 ∧ b = .int .i64 ((2 : Int) ^ j) ∧ e = .int .i64 (e19 (E || lackB p q j))) (fun _ b => 16 - (intOf b).toNat)
              case atStart => exact ⟨0, by omega, rfl, by rw [HB.out.1, Bool.or_false]⟩
              case round =>
                obtain ⟨j, hj, rfl, rfl⟩ := hrel
                obtain rfl | rfl | rfl | rfl : j = 0 ∨ j = 1 ∨ j = 2 ∨ j = 3 := by omega
                · cases hb : b1 == 1 with
                  | false =>
                    go_wp2_with fail
                    go_round
                    case rel => exact ⟨1, by omega, rfl, by rw [HB.out.2.1, hb, Bool.false_and, Bool.or_false]⟩
                    case measure => decide
                  | true =>
                    cases hy : y1 == 0 with
                    | false =>
                      go_wp2_with fail
                      go_round
                      case rel => exact ⟨1, by omega, rfl, by rw [HB.out.2.1, hb, hy, Bool.and_false, Bool.or_false]⟩
                      case measure => decide
                    | true =>
                      go_wp2_with fail
                      go_round
                      case rel => exact ⟨1, by omega, rfl, by rw [HB.out.2.1, hb, hy]; simp [e19]⟩
                      case measure => decide
                · cases hb : b2 == 1 with
                  | false =>
                    go_wp2_with fail
                    go_round
                    case rel => exact ⟨2, by omega, rfl, by rw [HB.out.2.2.1, hb, Bool.false_and, Bool.or_false]⟩
                    case measure => decide
                  | true =>
                    cases hy : y2 == 0 with
                    | false =>
                      go_wp2_with fail
                      go_round
                      case rel => exact ⟨2, by omega, rfl, by rw [HB.out.2.2.1, hb, hy, Bool.and_false, Bool.or_false]⟩
                      case measure => decide
                    | true =>
                      go_wp2_with fail
                      go_round
                      case rel => exact ⟨2, by omega, rfl, by rw [HB.out.2.2.1, hb, hy]; simp [e19]⟩
                      case measure => decide
                · cases hb : b4 == 1 with
                  | false =>
                    go_wp2_with fail
                    go_round
                    case rel => exact ⟨3, by omega, rfl, by rw [HB.out.2.2.2, hb, Bool.false_and, Bool.or_false]⟩
                    case measure => decide
                  | true =>
                    cases hy : y4 == 0 with
                    | false =>
                      go_wp2_with fail
                      go_round
                      case rel => exact ⟨3, by omega, rfl, by rw [HB.out.2.2.2, hb, hy, Bool.and_false, Bool.or_false]⟩
                      case measure => decide
                    | true =>
                      go_wp2_with fail
                      go_round
                      case rel => exact ⟨3, by omega, rfl, by rw [HB.out.2.2.2, hb, hy]; simp [e19]⟩
                      case measure => decide
                · go_wp2_with fail
                  go_round
                  case rel =>
                    refine ⟨n + 1, by omega, by go_num, ?_, HX.out.2.2.1⟩
                    rw [HX.out.2.1, lackB_three p q hp HX.out.2.2.2.1]
                  case measure => simp [intOf]; omega
        · have g1 : decide ((0 : Int) < (n : Int)) = true := by rw [decide_eq_true_eq]; omega
          have g1n : decide (0 < n) = true := by rw [decide_eq_true_eq]; omega
          have g2 : decide (((n + 1 : Nat) : Int) < (z : Int)) = true := by rw [decide_eq_true_eq]; omega
          have g2n : decide (n + 1 < z) = true := by rw [decide_eq_true_eq]; omega
          have g2m : decide ((n : Int) + 1 < (z : Int)) = true := by rw [decide_eq_true_eq]; omega
          have g3 : ((M : Int) != 0) = true := by rw [bne_iff_ne]; omega
          have g3n : (M != 0) = true := by rw [bne_iff_ne]; omega
          have HV := hid (And.intro hv (And.intro hM hA))
          clear hv hM hA
          go_wp2_with fail
          go_round
          case rel => exact ⟨n + 1, by omega, by go_num, by rw [lackN_skip (by have := HV.out.1; omega) (by rw [← HV.out.2.2, ← HV.out.2.1]; have := HV.out.1; omega)], seenN_skip HS.out (by have := HV.out.1; omega) (by rw [← HV.out.2.2, ← HV.out.2.1]; have := HV.out.1; omega)⟩
          case measure => simp [intOf]; omega
      · have hltz : decide ((n : Int) < (z : Int)) = false := by rw [decide_eq_false_iff_not]; omega
        have hltn : decide (n < z) = false := by rw [decide_eq_false_iff_not]; omega
        have hnz : n = z := by omega
        subst hnz
        have hres : R = e19 (lackN pgs p a n n) := by rw [H.out.2.2.1]; exact lookE_end (H.out.1.nos.imp (fun h => Nat.ne_of_lt h)) H.out.2.1 hz0 HS.out
        have HX := hid hres
        clear hres
        go_wp2_with fail
        go_ret
        rw [HX.out]
        exact ⟨rfl, rfl⟩
end Go.Proofs.Ytacmjpkcimjjpaa
