/- Package leb: a number of groups, at a cursor. -/
import Derived.Test.YtipgcdpmkpjokaaDoorUlebB
namespace Go.Proofs.YtipgcdpmkpjokaaDoor
set_option linter.unusedSimpArgs false
set_option linter.unusedVariables false
open Go.RowKit

set_option maxHeartbeats 2000000 in
theorem leb_groups_bad (w : World) (c nb k : Nat) (l : List UInt8) (hl : l.length ≤ 140737488355328) (hcu : CurAt w c l k false true) (het : ET w) :
    Calls Tryd.prog 55 #[.pointer (some ⟨c, 0, none⟩), .func (.func 56) #[] #[.pointer (some ⟨nb, 0, none⟩)]] w fun e w' =>
      e = .returned (.bool false) ∧ CurAt w' c l k false true ∧ w.grownBy w' (some c) := by
  obtain ⟨p, cap, h0, h1, h3, hf3, hk⟩ : ∃ p cap, w.cell? ⟨c, 0, none⟩ = some (.slice p l.length cap) ∧ w.cell? ⟨c, 1, none⟩ = some (.int .i64 k) ∧ w.cell? ⟨c, 3, none⟩ = some (.bool true) ∧ w.frozen? ⟨c, 3, none⟩ = false ∧ k ≤ l.length := by
    obtain ⟨v, hv, hb, hk, hc⟩ := hcu
    obtain ⟨p, cap, rfl, _⟩ := id hv
    exact ⟨p, cap, (cur_cells hc).1.1, (cur_cells hc).1.2.1, (cur_cells hc).1.2.2.2, (cur_cells hc).2 3, hk⟩
  have H := hid (And.intro hcu het)
  clear hcu het
  by_cases hat : k = l.length
  · have hd0 : ((l.length : Int) - (k : Int) == 0) = true := by rw [beq_iff_eq]; omega
    clear hat
    go_enter Tryd.func55, Tryd.ntmps55
    go_wp2_with fail
    go_step3
    go_wp2_with ((go_at_call 41; refine (cur_at c _ k h1).mono ?_; rintro e w' ⟨rfl, rfl⟩))
    go_step3
    go_wp2_with fail
    refine wp_loop_rounds 1 ?_
    rw [rounds_succ]
    go_wp2_with fail
    refine (cur_left c _ p l.length cap k hk hl h0 h1).mono ?_
    rintro e w1 ⟨rfl, q, rfl⟩
    go_wp2_with fail
    refine (cur_seek_bad c (w'.drewN q) l _ k (k : Int) false (H.out.1.heap rfl) rfl hk).mono ?_
    rintro e wa ⟨rfl, rfl⟩
    go_wp2_with fail
    refine (cur_fail c _ (by exact hf3) _ (by exact h3)).mono ?_
    rintro e wb ⟨rfl, rfl⟩
    go_wp2
    rw [noGoto_ret]
    go_ret
    exact ⟨rfl, CurAt.failed (H.out.1.heap rfl), grownBy_heap (grownBy_setCell w' c 3 (.bool true)) rfl rfl rfl rfl⟩
  · have hd0 : ((l.length : Int) - (k : Int) == 0) = false := by rw [beq_eq_false_iff_ne]; omega
    clear hat
    go_enter Tryd.func55, Tryd.ntmps55
    go_wp2_with fail
    go_step3
    go_wp2_with ((go_at_call 41; refine (cur_at c _ k h1).mono ?_; rintro e w' ⟨rfl, rfl⟩))
    go_step3
    go_wp2_with fail
    refine wp_loop_rounds 1 ?_
    rw [rounds_succ]
    go_wp2_with fail
    refine (cur_left c _ p l.length cap k hk hl h0 h1).mono ?_
    rintro e w1 ⟨rfl, q, rfl⟩
    go_wp2_with fail
    refine (cur_num1_bad c (w'.drewN q) l k (H.out.1.heap rfl)).mono ?_
    rintro e wa ⟨rfl, rfl⟩
    go_wp2_with fail
    refine (cur_err c (w'.drewN q) l k false true (H.out.1.heap rfl) (H.out.2.heap rfl)).mono ?_
    rintro e wb ⟨rfl, hb⟩
    go_wp2
    rw [noGoto_ret]
    go_ret
    exact ⟨rfl, CurAt.below (w := w'.drewN q) (H.out.1.heap rfl) hb, (grownBy_heap (w := w') (w1 := w') (grownBy_refl _ _) rfl rfl rfl rfl : w'.grownBy (w'.drewN q) (some c)) |> fun h => grownBy_tr h (Below.all hb _)⟩

/-- leb.Uleb, at a cursor in the state s. -/
theorem leb_uleb (w : World) (c : Nat) (l : List UInt8) (s : Cu) (hl : l.length ≤ 140737488355328) (hcu : CuAt w c l s) (het : ET w) :
    Calls Tryd.prog 38 #[.pointer (some ⟨c, 0, none⟩)] w fun e w' =>
      ∃ n s', numC l s = (n, s') ∧ e = .returned (.int .u64 (n : Nat)) ∧ CuAt w' c l s' ∧ w.grownBy w' (some c) := by
  have hcg := ET.ne het hcu
  obtain ⟨k, f⟩ := s
  have hb1 : Below w.heap.size w (w.alloc (.cells #[.int .u64 0] 23)) := (Below.refl _ _).alloc (Nat.le_refl _) _
  have hcu1 : CurAt (w.alloc (.cells #[.int .u64 0] 23)) c l k false f := CurAt.below hcu hb1
  have het1 : ET (w.alloc (.cells #[.int .u64 0] 23)) := het.grown (World.grownBy_alloc w _ none) (by simp)
  cases f with
  | true =>
    have H := hid (And.intro hcu1 het1)
    have hbd := leb_groups_bad _ c w.heap.size k l hl hcu1 het1
    have hg0 := World.grownBy_alloc w (.cells #[.int .u64 0] 23) (some c)
    have HG := hid hg0
    clear hcu hcu1 het1 hb1 hg0
    go_enter Tryd.func38, Tryd.ntmps38
    go_wp2_with fail
    refine hbd.mono ?_
    rintro e w1 ⟨rfl, hc1, hg1⟩
    have H1 := hid (And.intro hc1 hg1)
    clear hc1 hg1
    go_wp2
    go_ret
    exact ⟨0, ⟨k, true⟩, rfl, rfl, H1.out.1, grownBy_tr HG.out H1.out.2⟩
  | false =>
    have hg := leb_groups w (w.alloc (.cells #[.int .u64 0] 23)) c w.heap.size k l hl hcu1 (by simp) (by simp) (World.grownBy_alloc w _ (some c)) (Nat.le_refl _) het hcg
    clear hcu hcu1 het1 hb1
    go_enter Tryd.func38, Tryd.ntmps38
    go_wp2_with fail
    refine hg.mono ?_
    rintro e w1 ⟨b, rfl, hgr, hend⟩
    cases hu : ulebM (l.drop k) with
    | none =>
      rw [hu] at hend
      obtain ⟨rfl, hc1⟩ := hend
      have H1 := hid (And.intro hc1 (And.intro hgr hu))
      clear hc1 hgr hu
      go_wp2
      go_ret
      refine ⟨0, ⟨k, true⟩, ?_, rfl, H1.out.1, H1.out.2.1⟩
      unfold numC
      rw [if_neg (by simp), H1.out.2.2]
    | some p =>
      obtain ⟨n, sz⟩ := p
      rw [hu] at hend
      obtain ⟨rfl, hc1, hx⟩ := hend
      have H1 := hid (And.intro hc1 (And.intro hgr hu))
      clear hc1 hgr hu
      go_wp2
      go_ret
      refine ⟨n, ⟨k + sz, false⟩, ?_, rfl, H1.out.1, H1.out.2.1⟩
      unfold numC
      rw [if_neg (by simp), H1.out.2.2]
end Go.Proofs.YtipgcdpmkpjokaaDoor
