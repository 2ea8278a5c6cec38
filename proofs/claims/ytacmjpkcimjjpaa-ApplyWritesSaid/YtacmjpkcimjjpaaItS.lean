/- slices.Sort at a few []uint64: by insertion. -/
import Derived.Test.YtacmjpkcimjjpaaItA
import Derived.Test.YtacmjpkcimjjpaaShelf
import Derived.RegionTactic
import Derived.BigRegion
namespace Go.Proofs.Ytacmjpkcimjjpaa
set_option linter.unusedSimpArgs false
set_option linter.unusedVariables false
open Go.RowKit Go.Maps Go.Shelf

set_option maxHeartbeats 400000 in
theorem nan_u64 (w : World) (a : Int) : Calls Try.prog 102 #[.int .u64 a] w fun e w' => e = .returned (.bool false) ∧ w = w' := by
  go_enter Try.func102, Try.ntmps102
  go_wp2_with fail
  go_ret
  exact ⟨rfl, rfl⟩

set_option maxHeartbeats 400000 in
theorem less_u64 (w : World) (a b : Int) : Calls Try.prog 92 #[.int .u64 a, .int .u64 b] w fun e w' => e = .returned (.bool (decide (a < b))) ∧ w = w' := by
  go_enter Try.func92, Try.ntmps92
  go_wp2_with (go_at_call 102; refine (nan_u64 _ _).mono ?_; rintro e w' ⟨rfl, rfl⟩)
  go_ret
  exact ⟨rfl, rfl⟩

theorem less_q (w : World) (x y : Nat) (r : Bool) (h : decide (x < y) = r) : Calls Try.prog 92 #[.int .u64 (x : Int), .int .u64 (y : Int)] w fun e w' => e = .returned (.bool r) ∧ w' = w :=
  (less_u64 w x y).mono fun e w' ⟨he, hw⟩ => ⟨by rw [he, ← h]; congr 2; rw [decide_eq_decide]; omega, hw.symm⟩

/-- The array in the block g holds the numbers l and behind them the cells sp. -/
def Arr (W : World) (g : Nat) (l : List Nat) (sp : List Value) : Prop := RowAt W g 22 (w64s l ++ sp).toArray

theorem Arr.cell {W : World} {g : Nat} {l : List Nat} {sp : List Value} (h : Arr W g l sp) {j x : Nat} (hx : l[j]? = some x) : W.cell? ⟨g, j, none⟩ = some (.int .u64 (x : Int)) := by
  rw [RowAt.cell h, List.getElem?_toArray, List.getElem?_append_left (by rw [w64s_length]; exact (List.getElem?_eq_some_iff.1 hx).1)]
  simp [w64s, hx]

theorem Arr.swap {W : World} {g : Nat} {L R : List Nat} {x y : Nat} {sp : List Value} (h : Arr W g (L ++ y :: x :: R) sp) :
    Arr ((W.setCell ⟨g, L.length + 1, none⟩ (.int .u64 (y : Int))).setCell ⟨g, L.length, none⟩ (.int .u64 (x : Int))) g (L ++ x :: y :: R) sp := by
  have h1 := RowAt.same (RowAt.same h (.int .u64 (y : Int)) (i := L.length + 1)) (.int .u64 (x : Int)) (i := L.length)
  unfold Arr
  have e : (w64s (L ++ x :: y :: R) ++ sp).toArray = (((w64s (L ++ y :: x :: R) ++ sp).toArray.setIfInBounds (L.length + 1) (.int .u64 (y : Int))).setIfInBounds L.length (.int .u64 (x : Int))) := by
    simp [w64s, List.set_append, List.setIfInBounds_toArray]
  rw [e]; exact h1

theorem grown_drewN {w W : World} {r : Option Nat} (h : w.grownBy W r) (q : Nat) : w.grownBy (W.drewN q) r := ⟨h.os, h.tape, h.output, h.size, h.block⟩

/-- The inner loop: x is on its way down. -/
structure Down1 (W w : World) (g : Nat) (xs R : List Nat) (sp : List Value) (x : Nat) (L S : List Nat) : Prop where
  arr : Arr W g (L ++ x :: (S ++ R)) sp
  perm : (L ++ x :: (S ++ R)).Perm xs
  sorted : (L ++ S).Pairwise (· ≤ ·)
  le : ∀ s ∈ S, x ≤ s
  by_ : w.grownBy W (some g)

theorem Down1.done {W w : World} {g : Nat} {xs R : List Nat} {sp : List Value} {x : Nat} {L S : List Nat} (h : Down1 W w g xs R sp x L S) (hl : ∀ a ∈ L, a ≤ x) : (L ++ x :: S).Pairwise (· ≤ ·) := by
  obtain ⟨h1, h2, h3⟩ := List.pairwise_append.1 h.sorted
  refine List.pairwise_append.2 ⟨h1, List.pairwise_cons.2 ⟨h.le, h2⟩, fun a ha b hb => ?_⟩
  rcases List.mem_cons.1 hb with rfl | hb
  · exact hl a ha
  · exact h3 a ha b hb

theorem Down1.last {W w : World} {g : Nat} {xs R : List Nat} {sp : List Value} {x y : Nat} {L S : List Nat} (h : Down1 W w g xs R sp x (L ++ [y]) S) (hl : y ≤ x) : ∀ a ∈ L ++ [y], a ≤ x := by
  intro a ha
  have h1 := (List.pairwise_append.1 h.sorted).1
  rcases List.mem_append.1 ha with ha | ha
  · exact Nat.le_trans ((List.pairwise_append.1 h1).2.2 a ha y (by simp)) hl
  · simp at ha; omega

theorem Down1.next {W w : World} {g : Nat} {xs R : List Nat} {sp : List Value} {x y : Nat} {L S : List Nat} (h : Down1 W w g xs R sp x (L ++ [y]) S) (hl : x < y) :
    Down1 ((W.setCell ⟨g, L.length + 1, none⟩ (.int .u64 (y : Int))).setCell ⟨g, L.length, none⟩ (.int .u64 (x : Int))) w g xs R sp x L (y :: S) := by
  have ha := h.arr
  rw [List.append_assoc, List.singleton_append] at ha
  refine ⟨by rw [List.cons_append]; exact ha.swap, ?_, by have := h.sorted; rwa [List.append_assoc, List.singleton_append] at this, ?_, ?_⟩
  · refine List.Perm.trans ?_ h.perm
    rw [List.append_assoc, List.singleton_append, List.cons_append]
    exact List.Perm.append_left L (List.Perm.swap y x (S ++ R))
  · intro s hs
    rcases List.mem_cons.1 hs with rfl | hs
    · omega
    · exact h.le s hs
  · have hb := h.by_
    exact ⟨hb.os, hb.tape, hb.output, by simpa [World.setCell] using hb.size, fun k hk hr => by
      have hne : k ≠ g := fun e => hr (by rw [e])
      rw [heap_setCell_other _ _ k _ (by simpa using hne), heap_setCell_other _ _ k _ (by simpa using hne)]
      exact hb.block k hk hr⟩

set_option maxHeartbeats 4000000 in
theorem insertion (w : World) (g n cap : Nat) (xs : List Nat) (sp : List Value) (h : Arr w g xs sp) (hn : xs.length = n) (hm : n ≤ 17592186044416) (hc : n ≤ cap) (h1 : 0 < n) :
    Calls Try.prog 86 #[.slice (some ⟨g, 0, none⟩) n cap, .int .i64 0, .int .i64 (n : Int)] w fun e w' => e = .returned (.tuple #[]) ∧ ∃ ys, ys.Perm xs ∧ ys.Pairwise (· ≤ ·) ∧ Arr w' g ys sp ∧ w.grownBy w' (some g) := by
  have H := hid (And.intro h (And.intro hn hc))
  clear h hn hc
  go_enter Try.func86, Try.ntmps86
  go_wp2_with fail
  go_loopw [6] (fun i wr => ∃ P R : List Nat, i = .int .i64 ((P.length : Nat) : Int) ∧ 1 ≤ P.length ∧ P.length + R.length = n ∧ (P ++ R).Perm xs ∧ P.Pairwise (· ≤ ·) ∧ Arr wr g (P ++ R) sp ∧ w.grownBy wr (some g)) (fun i _ => n - (intOf i).toNat)
  case atStart =>
    obtain ⟨x, xr, rfl⟩ : ∃ x xr, xs = x :: xr := by cases xs with | nil => simp at H; have := H.out; omega | cons x xr => exact ⟨x, xr, rfl⟩
    exact ⟨[x], xr, rfl, Nat.le_refl _, by have := H.out.2.1; simp at this ⊢; omega, List.Perm.refl _, List.pairwise_singleton _ _, H.out.1, ⟨rfl, rfl, rfl, Nat.le_refl _, fun _ _ _ => rfl⟩⟩
  case round =>
    obtain ⟨P, R, rfl, hp1, hpr, hperm, hsort, harr, hby⟩ := hrel
    have HR := hid (And.intro hperm (And.intro hsort (And.intro harr hby)))
    clear hperm hsort harr hby
    obtain ⟨wo, rfl⟩ : ∃ wo : World, wo = wr := ⟨_, rfl⟩
    obtain ⟨m, hmm⟩ : ∃ m, m = P.length := ⟨_, rfl⟩
    rw [← hmm] at hp1 hpr ⊢
    by_cases hlt : m < n
    · have hd1 : decide ((m : Int) < (n : Int)) = true := by rw [decide_eq_true_eq]; omega
      obtain ⟨x, R', rfl⟩ : ∃ x R', R = x :: R' := by cases R with | nil => simp at hpr; omega | cons x R' => exact ⟨x, R', rfl⟩
      have hD : Down1 wo w g xs R' sp x P [] := ⟨HR.out.2.2.1, HR.out.1, by rw [List.append_nil]; exact HR.out.2.1, fun s hs => (by cases hs), HR.out.2.2.2⟩
      have HD := hid (And.intro hD hmm)
      clear hD hmm
      go_wp2_with fail
      go_loopw [7] (fun j wr => ∃ L S : List Nat, j = .int .i64 ((L.length : Nat) : Int) ∧ L.length + S.length = m ∧ Down1 wr w g xs R' sp x L S) (fun j _ => (intOf j).toNat)
      case atStart => exact ⟨P, [], by rw [HD.out.2], by rw [HD.out.2]; rfl, HD.out.1⟩
      case round =>
        obtain ⟨L, S, rfl, hls, hdn⟩ := hrel
        obtain ⟨q, hq⟩ : ∃ q, q = L.length := ⟨_, rfl⟩
        rw [← hq] at hls ⊢
        by_cases h0 : q = 0
        · subst h0
          have hL : L = [] := List.eq_nil_of_length_eq_zero hq.symm
          subst hL
          have HN := hid hdn
          have hls' := hid hls
          clear hdn hq hls
          go_wp2_with fail
          go_quiet (fail)
          go_wp2_with fail
          have hfin := HN.out.done (fun a ha => by cases ha)
          have hF := hid hfin
          clear hfin
          go_roundw
          case rel => exact ⟨x :: S, R', by simp at hls' ⊢; have := hls'.out; omega, by simp, by simp at hpr ⊢; have := hls'.out; simp at this; omega, HN.out.perm, hF.out, HN.out.arr, grown_drewN HN.out.by_ _⟩
          case measure => simp [intOf]; omega
        · obtain ⟨L', y, rfl⟩ : ∃ L' y, L = L' ++ [y] := ⟨L.dropLast, L.getLast (by intro e; rw [e] at hq; exact h0 hq), (List.dropLast_concat_getLast _).symm⟩
          obtain ⟨q', hq'⟩ : ∃ q', q' = L'.length := ⟨_, rfl⟩
          have hqq : q = q' + 1 := by rw [hq, hq']; simp
          have ha := hdn.arr
          rw [List.append_assoc, List.singleton_append] at ha
          have c1 : wr.cell? ⟨g, q', none⟩ = some (.int .u64 (y : Int)) := by rw [hq']; exact ha.cell (by simp)
          have c2 : wr.cell? ⟨g, q, none⟩ = some (.int .u64 (x : Int)) := by rw [hqq, hq']; exact ha.cell (by simp)
          have f1 : wr.frozen? ⟨g, q', none⟩ = false := RowAt.own ha _
          have f2 : wr.frozen? ⟨g, q, none⟩ = false := RowAt.own ha _
          have hbd : q < n := by omega
          have hbd2 : q' < n := by omega
          have hbi : (q : Int) < (n : Int) := by omega
          have hbi2 : (q' : Int) < (n : Int) := by omega
          have hne : q ≠ q' := by omega
          have hw : IntKind.i64.wrap ((q : Int) - 1) = (q' : Int) := (IntWalk.i64_in _ (by omega)).trans (by omega)
          have hd3 : decide ((0 : Int) < (q : Int)) = true := by rw [decide_eq_true_eq]; omega
          have hd5 : decide (0 < q) = true := by rw [decide_eq_true_eq]; omega
          have HN := hid (And.intro hdn (And.intro hq' (And.intro hls hqq)))
          clear hdn hq' hls ha hq h0 hqq
          by_cases hxy : x < y
          · have hd4 : decide ((x : Int) < (y : Int)) = true := by rw [decide_eq_true_eq]; omega
            have hd6 : decide (x < y) = true := by rw [decide_eq_true_eq]; omega
            have HL := hid (fun w => less_q w x y true hd6)
            have hxy2 := hid hxy
            clear hxy hd4 hd6
            go_wp2_with fail
            go_quiet ((go_at_call 92; exact Calls.quiet_of_same (HL.out _)))
            go_wp2_with fail
            go_region
            all_goals go_wp2_with fail
            have hnx := HN.out.1.next hxy2.out
            have hF := hid hnx
            clear hnx
            go_roundw
            case rel =>
              have e1 := HN.out.2.1
              have e2 := HN.out.2.2.1
              have e3 := HN.out.2.2.2
              refine ⟨L', y :: S, by rw [e1], by simp; omega, ?_⟩
              have h := hF.out
              rw [← e1, ← e3] at h
              exact ⟨h.arr, h.perm, h.sorted, h.le, grown_drewN h.by_ _⟩
            case measure => simp [intOf]; have := HN.out.2.2.2; omega
          · have hd4 : decide ((x : Int) < (y : Int)) = false := by rw [decide_eq_false_iff_not]; omega
            have hd6 : decide (x < y) = false := by rw [decide_eq_false_iff_not]; omega
            have HL := hid (fun w => less_q w x y false hd6)
            have hyx : y ≤ x := by omega
            clear hxy hd4 hd6
            go_wp2_with fail
            go_quiet ((go_at_call 92; exact Calls.quiet_of_same (HL.out _)))
            go_wp2_with fail
            have hfin := HN.out.1.done (HN.out.1.last hyx)
            have hF := hid hfin
            clear hfin hyx
            go_roundw
            case rel => exact ⟨(L' ++ [y]) ++ x :: S, R', by have := HN.out.2.2.1; have := HN.out.2.2.2; have := HN.out.2.1; simp; omega, by simp; omega, by have := HN.out.2.2.1; have := HN.out.2.2.2; have := HN.out.2.1; simp at hpr ⊢; omega, by rw [List.append_assoc]; exact HN.out.1.perm, hF.out, by rw [List.append_assoc]; exact HN.out.1.arr, grown_drewN HN.out.1.by_ _⟩
            case measure => simp [intOf]; omega
    · have hd1 : decide ((m : Int) < (n : Int)) = false := by rw [decide_eq_false_iff_not]; omega
      have hR : R = [] := by cases R with | nil => rfl | cons x r => simp at hpr; omega
      subst hR
      rw [List.append_nil] at HR
      go_wp2_with fail
      go_end0
      exact ⟨rfl, P, HR.out⟩
/-- How a slice of the call's own lies. -/
theorem arr_of_own {W : World} {n0 : Nat} {g n cap : Nat} {xs : List Nat} (h : W.ownsRow n0 22 1 (.slice (some ⟨g, 0, none⟩) n cap) n (w64s xs)) : xs.length = n ∧ n ≤ cap ∧ n0 ≤ g ∧ ∃ sp, Arr W g xs sp ∧ cap ≤ maxLen ∧ n + sp.length = cap := by
  have hl : xs.length = n := by have := h.1; rw [w64s_length] at this; omega
  rcases h.2 with ⟨hn, _⟩ | ⟨g', cap', cur, he, hg, hc, h1, h2, h3, h4⟩
  · cases hn
  · cases he
    refine ⟨hl, h1, hg, cur.toList.drop n, ?_, h2, ?_⟩
    · unfold Arr RowAt
      rw [hc]
      congr 2
      have : cur.toList = w64s xs ++ cur.toList.drop n := by rw [← h4, Nat.mul_one, List.take_append_drop]
      rw [← this]
    · rw [List.length_drop, Array.length_toList, h3]; omega

theorem own_of_arr {W : World} {n0 : Nat} {g n cap : Nat} {xs : List Nat} {sp : List Value} (h : Arr W g xs sp) (hl : xs.length = n) (hn : n ≤ cap) (hg : n0 ≤ g) (hm : cap ≤ maxLen) (hs : n + sp.length = cap) :
    W.ownsRow n0 22 1 (.slice (some ⟨g, 0, none⟩) n cap) n (w64s xs) := by
  refine ⟨by rw [w64s_length]; omega, .inr ⟨g, cap, _, rfl, hg, h, hn, hm, by simp [w64s_length]; omega, ?_⟩⟩
  simp only [Nat.mul_one]
  rw [List.take_append_of_le_length (by rw [w64s_length]; omega), List.take_of_length_le (by rw [w64s_length]; omega)]

set_option maxHeartbeats 2000000 in
theorem pdq_few (w : World) (g n cap : Nat) (lim : Int) (xs : List Nat) (sp : List Value) (h : Arr w g xs sp) (hn : xs.length = n) (hm : n ≤ 12) (hc : n ≤ cap) (h1 : 0 < n) :
    Calls Try.prog 79 #[.slice (some ⟨g, 0, none⟩) n cap, .int .i64 0, .int .i64 (n : Int), .int .i64 lim] w fun e w' => e = .returned (.tuple #[]) ∧ ∃ ys, ys.Perm xs ∧ ys.Pairwise (· ≤ ·) ∧ Arr w' g ys sp ∧ w.grownBy w' (some g) := by
  have HI := hid (insertion w g n cap xs sp h hn (by omega) hc h1)
  have hw : IntKind.i64.wrap (n : Int) = (n : Int) := IntWalk.i64_in _ (by omega)
  have hd : decide ((n : Int) ≤ 12) = true := by rw [decide_eq_true_eq]; omega
  have hd2 : decide (n ≤ 12) = true := by rw [decide_eq_true_eq]; omega
  clear h hn hc h1
  go_enter Try.func79, Try.ntmps79
  go_wp2_with fail
  refine wp_loop_rounds 1 ?_; rw [rounds_succ]
  go_wp2_with fail
  refine HI.out.mono ?_
  rintro e w1 ⟨rfl, hy⟩
  have HY := hid hy
  clear hy
  go_wp2_with fail
  refine bodyPost_ret (results_none rfl _ _ _) rfl ?_
  exact ⟨rfl, HY.out⟩

set_option maxHeartbeats 2000000 in
theorem pdq_none (w : World) (p : Option Addr) (cap : Nat) (lim : Int) : Calls Try.prog 79 #[.slice p 0 cap, .int .i64 0, .int .i64 0, .int .i64 lim] w fun e w' => e = .returned (.tuple #[]) ∧ w = w' := by
  have HI : Hid (∀ w, Calls Try.prog 86 #[.slice p 0 cap, .int .i64 0, .int .i64 0] w fun e w' => e = .returned (.tuple #[]) ∧ w = w') := by
    refine hid (fun w => ?_)
    go_enter Try.func86, Try.ntmps86
    go_wp2_with fail
    refine wp_loop_rounds 1 ?_; rw [rounds_succ]
    go_wp2_with fail
    go_end0
    exact ⟨rfl, rfl⟩
  go_enter Try.func79, Try.ntmps79
  go_wp2_with fail
  refine wp_loop_rounds 1 ?_; rw [rounds_succ]
  go_wp2_with fail
  refine (HI.out _).mono ?_
  rintro e w1 ⟨rfl, rfl⟩
  go_wp2_with fail
  refine bodyPost_ret (results_none rfl _ _ _) rfl ?_
  exact ⟨rfl, rfl⟩

def SortEnd (n0 n : Nat) (v : Value) (xs : List Nat) (w : World) (e : Ending) (w' : World) : Prop :=
  e = .returned (.tuple #[]) ∧ ∃ ys, ys.Perm xs ∧ ys.Pairwise (· ≤ ·) ∧ w'.ownsRow n0 22 1 v n (w64s ys) ∧ w.grownBy w' v.ownBlock

/-- slices.Sort of a few. -/
theorem sort_few (w : World) (n0 n : Nat) (v : Value) (xs : List Nat) (h : w.ownsRow n0 22 1 v n (w64s xs)) (hm : n ≤ 12) :
    Calls Try.prog 71 #[v] w (SortEnd n0 n v xs w) := by
  obtain ⟨p, cap, rfl⟩ := ownsRow_form h
  have hw : IntKind.u64.wrap (n : Int) = (n : Int) := IntWalk.u64_in _ (by omega)
  have HL := hid (fun w => Try.bits_Len (n : Int) w (by omega) (by omega))
  rcases Nat.eq_zero_or_pos n with hn | hn
  · subst hn
    have hx : xs = [] := by have := h.1; rw [w64s_length] at this; exact List.eq_nil_of_length_eq_zero (by omega)
    subst hx
    have H := hid h
    clear h
    go_enter Try.func71, Try.ntmps71
    go_wp2_with fail
    refine (HL.out _).mono ?_
    rintro e w1 ⟨rfl, rfl⟩
    go_wp2_with fail
    refine (pdq_none _ _ _ _).mono ?_
    rintro e w2 ⟨rfl, rfl⟩
    go_wp2_with fail
    go_end0
    exact ⟨rfl, [], List.Perm.refl _, List.Pairwise.nil, H.out, ⟨rfl, rfl, rfl, Nat.le_refl _, fun _ _ _ => rfl⟩⟩
  · have hne : ∃ g, p = some ⟨g, 0, none⟩ := by
      rcases h.2 with ⟨he, hz⟩ | ⟨g, cap', cur, he, _⟩
      · omega
      · cases he; exact ⟨g, rfl⟩
    obtain ⟨g, rfl⟩ := hne
    obtain ⟨hl, hc, hg, sp, ha, hcm, hsp⟩ := arr_of_own h
    have HP := hid (fun lim => pdq_few w g n cap lim xs sp ha hl hm hc hn)
    have H := hid (And.intro hc (And.intro hg (And.intro hcm (And.intro hsp hl))))
    clear h ha hl hc hg hcm hsp
    go_enter Try.func71, Try.ntmps71
    go_wp2_with fail
    refine (HL.out _).mono ?_
    rintro e w1 ⟨rfl, rfl⟩
    go_wp2_with fail
    refine (HP.out _).mono ?_
    rintro e w2 ⟨rfl, ys, h1, h2, h3, h4⟩
    have HY := hid (And.intro h1 (And.intro h2 (And.intro h3 h4)))
    clear h1 h2 h3 h4
    go_wp2_with fail
    go_end0
    obtain ⟨k1, k2, k3, k4, k5⟩ := H.out
    obtain ⟨y1, y2, y3, y4⟩ := HY.out
    exact ⟨rfl, ys, y1, y2, own_of_arr y3 (y1.length_eq.trans k5) k1 k2 k3 k4, y4⟩
end Go.Proofs.Ytacmjpkcimjjpaa
