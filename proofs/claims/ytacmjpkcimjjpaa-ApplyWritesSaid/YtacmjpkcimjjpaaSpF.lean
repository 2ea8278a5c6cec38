/- Package space: New, in, numbers, Free. -/
import Derived.Test.YtacmjpkcimjjpaaSpM
namespace Go.Proofs.Ytacmjpkcimjjpaa
set_option linter.unusedSimpArgs false
set_option linter.unusedVariables false
open Go.RowKit Go.Maps

def inB (a z : Nat) : Bool := decide (a ≤ 140737488355328) && decide (z ≤ 140737488355328 - a)

theorem inB_le {a z : Nat} (h : inB a z = true) : a + z ≤ 140737488355328 := by
  unfold inB at h
  simp at h
  omega

set_option maxHeartbeats 400000 in
theorem sp_in (w : World) (a z : Nat) (ha : a < 2 ^ 64) (hz : z < 2 ^ 64) : Calls Try.prog 33 #[.int .u64 (a : Int), .int .u64 (z : Int)] w fun e w' => e = .returned (.bool (inB a z)) ∧ w = w' := by
  by_cases h1 : a ≤ 140737488355328
  · have hd1 : decide ((a : Int) ≤ 140737488355328) = true := by rw [decide_eq_true_eq]; omega
    have hw : IntKind.u64.wrap (140737488355328 - (a : Int)) = 140737488355328 - (a : Int) := IntWalk.u64_in _ (by omega)
    obtain ⟨R, hR⟩ : ∃ R, R = inB a z := ⟨_, rfl⟩
    have hd2 : decide ((z : Int) ≤ 140737488355328 - (a : Int)) = R := by
      rw [hR]; unfold inB
      rw [show decide (a ≤ 140737488355328) = true from by rw [decide_eq_true_eq]; exact h1, Bool.true_and, Bool.eq_iff_iff, decide_eq_true_eq, decide_eq_true_eq]; omega
    rw [← hR]
    clear hR h1
    go_enter Try.func33, Try.ntmps33
    go_wp2
    go_ret
    exact ⟨rfl, rfl⟩
  · have hd1 : decide ((a : Int) ≤ 140737488355328) = false := by rw [decide_eq_false_iff_not]; omega
    have hr : inB a z = false := by unfold inB; rw [show decide (a ≤ 140737488355328) = false from by rw [decide_eq_false_iff_not]; exact h1]; rfl
    rw [hr]
    clear h1 hr
    go_enter Try.func33, Try.ntmps33
    go_wp2
    go_ret
    exact ⟨rfl, rfl⟩

set_option maxHeartbeats 400000 in
theorem sp_numbers (w : World) (a z : Nat) (hz : 0 < z) (h : a + z ≤ 140737488355328) : Calls Try.prog 35 #[.int .u64 (a : Int), .int .u64 (z : Int)] w fun e w' => e = .returned (.tuple #[.int .u64 ((a / 4096 : Nat) : Int), .int .u64 (((a + z - 1) / 4096 + 1 : Nat) : Int)]) ∧ w = w' := by
  have hd1 : ((z : Int) == 0) = false := by rw [beq_eq_false_iff_ne]; omega
  obtain ⟨f, hf⟩ : ∃ f, f = a / 4096 := ⟨_, rfl⟩
  obtain ⟨g, hg⟩ : ∃ g, g = (a + z - 1) / 4096 := ⟨_, rfl⟩
  have q1 : (a : Int) / 4096 = (f : Int) := by omega
  have q2 : Int.tdiv (a : Int) 4096 = (f : Int) := by rw [Int.tdiv_eq_ediv_of_nonneg (by omega)]; omega
  have w1 : IntKind.u64.wrap ((a : Int) + (z : Int)) = (a : Int) + (z : Int) := IntWalk.u64_in _ (by omega)
  have w2 : IntKind.u64.wrap ((a : Int) + (z : Int) - 1) = (a : Int) + (z : Int) - 1 := IntWalk.u64_in _ (by omega)
  have q3 : ((a : Int) + (z : Int) - 1) / 4096 = (g : Int) := by omega
  have q4 : Int.tdiv ((a : Int) + (z : Int) - 1) 4096 = (g : Int) := by rw [Int.tdiv_eq_ediv_of_nonneg (by omega)]; omega
  have w3 : IntKind.u64.wrap ((f : Int)) = (f : Int) := IntWalk.u64_in _ (by omega)
  have w4 : IntKind.u64.wrap ((g : Int)) = (g : Int) := IntWalk.u64_in _ (by omega)
  have w5 : IntKind.u64.wrap ((g : Int) + 1) = (g : Int) + 1 := IntWalk.u64_in _ (by omega)
  rw [← hf, ← hg, Int.natCast_add]
  clear hf hg hz h
  go_enter Try.func35, Try.ntmps35
  go_wp2
  go_ret2
  exact ⟨rfl, rfl⟩

/-- What New brings about. -/
def NewEnd (w : World) (e : Ending) (w' : World) : Prop :=
  ∃ s b, e = .returned (.pointer (some ⟨s, 0, none⟩)) ∧ SpAt w' s b [] ∧ w.heap.size ≤ s ∧ w.heap.size ≤ b ∧ Below w.heap.size w w'

set_option maxHeartbeats 400000 in
theorem sp_new (w : World) : Calls Try.prog 8 #[] w (NewEnd w) := by
  have hmm := @run_makeMap Try.prog
  have hs0 : (w.alloc (.map #[] 0)).heap.size = w.heap.size + 1 := by simp
  have hb : Below w.heap.size w ((w.alloc (.map #[] 0)).alloc (.cells #[.map (some w.heap.size)] 92)) := ((Below.refl _ _).alloc (Nat.le_refl _) _).alloc (by simp) _
  have hS : SpAt ((w.alloc (.map #[] 0)).alloc (.cells #[.map (some w.heap.size)] 92)) (w.heap.size + 1) w.heap.size [] := by
    refine ⟨?_, (World.ownsMap_made _ _ _ _).alloc _, by simp, List.Pairwise.nil, List.Pairwise.nil, by simp⟩
    rw [← hs0]; exact heap_alloc_new _ _
  have H := hid (And.intro hS hb)
  clear hS hb hs0
  go_enter Try.func8, Try.ntmps8
  go_wp2
  go_ret
  exact ⟨_, _, rfl, H.out.1, Nat.le_succ _, Nat.le_refl _, H.out.2⟩

def freeB (pgs : List Pg) (f e : Nat) : Bool := !pgs.any (fun g => decide (f ≤ g.no) && decide (g.no < e))

/-- While the pages are gone over: those that are done stand elsewhere. -/
def FreeR (w : World) (b r : Nat) (pgs : List Pg) (f e : Nat) (wr : World) : Prop :=
  ∃ left cnt, wr.ranges Try.prog 22 pgElem b r pgs.length (spD pgs) left cnt ∧ Below w.heap.size w wr ∧
    ∀ n : Nat, pgs.any (fun g => g.no == n) = true → left (.int .u64 (n : Int)) = false → ¬ (f ≤ n ∧ n < e)

def pgO (o : Option (Nat × Int)) : Value := match o with | some q => pageV q.1 q.2 | none => pageZ

set_option maxHeartbeats 1000000 in
theorem sp_free (w : World) (s b a z : Nat) (pgs : List Pg) (h : SpAt w s b pgs) (ha : a < 2 ^ 64) (hz : 0 < z) (hin : inB a z = true) (hz64 : z < 2 ^ 64) :
    Calls Try.prog 34 #[.pointer (some ⟨s, 0, none⟩), .int .u64 (a : Int), .int .u64 (z : Int)] w fun e w' => e = .returned (.bool (freeB pgs (a / 4096) ((a + z - 1) / 4096 + 1))) ∧ Below w.heap.size w w' := by
  have hle := inB_le hin
  have hd1 : ((z : Int) == 0) = false := by rw [beq_eq_false_iff_ne]; omega
  have c0 : w.cell? ⟨s, 0, none⟩ = some (.map (some b)) := h.row.cell 0
  have HN := hid (sp_numbers w a z hz hle)
  have HI := hid (And.intro (sp_in w a z ha hz64) hin)
  obtain ⟨f, hf⟩ : ∃ f, f = a / 4096 := ⟨_, rfl⟩
  obtain ⟨g, hg⟩ : ∃ g, g = (a + z - 1) / 4096 + 1 := ⟨_, rfl⟩
  rw [← hf, ← hg] at HN
  rw [← hf, ← hg]
  have H := hid h
  clear h hf hg hin hle hz
  go_enter Try.func34, Try.ntmps34
  go_wp2_with fail
  refine HI.out.1.mono ?_
  rintro e w1 ⟨rfl, rfl⟩
  rw [HI.out.2]
  go_wp2_with fail
  refine HN.out.mono ?_
  rintro e w1 ⟨rfl, rfl⟩
  go_wp2_with (at_range; refine wpList_range_own _ rfl _ 90 rfl 22 101 lawU64 Try.underlying90 _ b pgs.length (spD pgs) rfl H.out.map ?_; intro w0 hrg0 hg0 hs0)
  go_frame
  have h0 : FreeR w b w.heap.size pgs f g w0 := by
    refine ⟨_, _, hrg0, ?_, fun n h1 h2 => ?_⟩
    · exact ⟨hg0.os, hg0.tape, hg0.output, hg0.size, fun k hk => hg0.block k hk (by simp)⟩
    · rw [spD_has, h1] at h2; cases h2
  have HR := hid h0
  clear hrg0 hg0 hs0 h0
  obtain ⟨r, hr⟩ : ∃ r, r = w.heap.size := ⟨_, rfl⟩
  rw [← hr] at HR ⊢
  have Hr := hid hr
  clear hr
  go_loopw [9] (fun _ wr => FreeR w b r pgs f g wr) (fun _ wr => wr.rangeLeft b r)
  case atStart => exact HR.out
  case round =>
    obtain ⟨left, cnt, hrg, hb, hd⟩ := hrel
    have HD := hid (And.intro hb hd)
    have Hrg := hid hrg
    clear hb hd hrg
    go_wp2_with (at_next; refine wpList_next_ranges _ rfl _ rfl 22 lawU64 pgElem (fun x : Int => Value.int .u64 x) pgO (fun key kl hkey => by obtain ⟨x, rfl, _⟩ := Maps.keyOf_int_inv Try.underlying22 hkey; exact ⟨x, rfl⟩) (fun v y hv => by rcases pgElem_inv hv with ⟨g1, p1, rfl, _⟩ | ⟨rfl, _⟩; exact ⟨some (g1, p1), rfl⟩; exact ⟨none, rfl⟩) b r pgs.length (spD pgs) left cnt rfl Hrg.out ?_ ?_)
    · intro hc0 hl0
      have hfr : freeB pgs f g = true := by
        unfold freeB
        rw [Bool.not_eq_true', List.any_eq_false]
        intro x hx hc
        have h1 := HD.out.2 x.no (List.any_eq_true.2 ⟨x, hx, by simp⟩) (hl0 _)
        simp at hc
        exact h1 hc
      have Hf := hid hfr
      clear hfr hc0 hl0
      go_wp2_with fail
      go_ret
      rw [Hf.out]
      exact ⟨rfl, HD.out.1⟩
    · intro x c kl yd yp w2 cnt1 hkey hlk hv hat hrg1 hlt hgr hsz hen
      obtain ⟨x', hx', rfl, hwf⟩ := Maps.keyOf_int_inv Try.underlying22 hkey
      cases hx'
      have hx0 : 0 ≤ x ∧ x ≤ 18446744073709551615 := by simpa [Lit.wf, IntKind.min, IntKind.max, IntKind.signed, IntKind.bits] using hwf
      obtain ⟨n, rfl⟩ : ∃ n : Nat, x = n := ⟨x.toNat, by omega⟩
      have hany : pgs.any (fun g => g.no == n) = true := by
        rw [← spD_has]; exact has_true_of_atKey hat
      have hb2 : Below w.heap.size w w2 := HD.out.1.grown hgr HD.out.1.size (fun k e => by cases e; rw [Hr.out]; exact Nat.le_refl _)
      by_cases hin : f ≤ n ∧ n < g
      · have hd4 : decide ((f : Int) ≤ (n : Int)) = true := by rw [decide_eq_true_eq]; omega
        have hd5 : decide (f ≤ n) = true := by rw [decide_eq_true_eq]; omega
        have hd6 : decide ((n : Int) < (g : Int)) = true := by rw [decide_eq_true_eq]; omega
        have hd7 : decide (n < g) = true := by rw [decide_eq_true_eq]; omega
        have hfr : freeB pgs f g = false := by
          unfold freeB
          rw [Bool.not_eq_false', List.any_eq_true]
          obtain ⟨q, hq, hq2⟩ := List.any_eq_true.1 hany
          have : q.no = n := by simpa using hq2
          exact ⟨q, hq, by rw [this]; simp; exact hin⟩
        have Hf := hid (And.intro hfr hb2)
        clear hfr hkey hlk hv hat hrg1 hlt hgr hsz hwf hany hin hb2 hx0
        go_wp2_with fail
        go_ret
        rw [Hf.out.1]
        exact ⟨rfl, Hf.out.2⟩
      · have hnext : FreeR w b r pgs f g w2 := by
          refine ⟨_, cnt1, hrg1, hb2, fun n' h1 h2 => ?_⟩
          by_cases hnn : n' = n
          · subst hnn; exact hin
          · have hsk : (Lit.int IntKind.u64 (n' : Int)).sameKey (Lit.int IntKind.u64 (n : Int)) = false := sameKey_ne (fun e => hnn (by simp at e; omega))
            rw [hsk] at h2
            exact HD.out.2 n' h1 (by simpa using h2)
        have hm : w2.rangeLeft b r < wr.rangeLeft b r := by rw [hrg1.left_eq, Hrg.out.left_eq]; exact hlt
        have HX := hid (And.intro hnext hm)
        by_cases h1 : f ≤ n
        · have hd4 : decide ((f : Int) ≤ (n : Int)) = true := by rw [decide_eq_true_eq]; omega
          have hd5 : decide (f ≤ n) = true := by rw [decide_eq_true_eq]; omega
          have hd6 : decide ((n : Int) < (g : Int)) = false := by rw [decide_eq_false_iff_not]; omega
          have hd7 : decide (n < g) = false := by rw [decide_eq_false_iff_not]; omega
          clear hkey hlk hv hat hrg1 hlt hgr hsz hwf hany hin hb2 hx0 hnext hm h1
          go_wp2_with fail
          go_roundw
          case rel => exact HX.out.1
          case measure => exact HX.out.2
        · have hd4 : decide ((f : Int) ≤ (n : Int)) = false := by rw [decide_eq_false_iff_not]; omega
          have hd5 : decide (f ≤ n) = false := by rw [decide_eq_false_iff_not]; omega
          clear hkey hlk hv hat hrg1 hlt hgr hsz hwf hany hin hb2 hx0 hnext hm h1
          go_wp2_with fail
          go_roundw
          case rel => exact HX.out.1
          case measure => exact HX.out.2
end Go.Proofs.Ytacmjpkcimjjpaa
