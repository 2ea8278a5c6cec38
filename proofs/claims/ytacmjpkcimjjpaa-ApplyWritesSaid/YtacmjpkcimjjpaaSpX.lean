/- Package space: runs. -/
import Derived.Test.YtacmjpkcimjjpaaItT
namespace Go.Proofs.Ytacmjpkcimjjpaa
set_option linter.unusedSimpArgs false
set_option linter.unusedVariables false
open Go.RowKit Go.Maps Go.Shelf

def pgP (pgs : List Pg) (n : Nat) : Int := match pgAt pgs n with | some g => g.prot | none => 0

/-- One page more. -/
def runStep (pr : Nat → Int) (L : List (Nat × Nat)) (n : Nat) : List (Nat × Nat) :=
  match L.getLast? with
  | some (a, z) => if z = n ∧ pr (n - 1) = pr n then L.dropLast ++ [(a, z + 1)] else L ++ [(n, n + 1)]
  | none => L ++ [(n, n + 1)]

def runsM (pr : Nat → Int) (ns : List Nat) : List (Nat × Nat) := ns.foldl (runStep pr) []

theorem runsM_snoc (pr : Nat → Int) (ns : List Nat) (n : Nat) : runsM pr (ns ++ [n]) = runStep pr (runsM pr ns) n := by unfold runsM; rw [List.foldl_append]; rfl

def flat2 (L : List (Nat × Nat)) : List Value := L.flatMap fun q => [.int .u64 (q.1 : Int), .int .u64 (q.2 : Int)]
theorem flat2_length (L : List (Nat × Nat)) : (flat2 L).length = L.length * 2 := by
  induction L with
  | nil => rfl
  | cons q r ih => simp [flat2] at ih ⊢; omega
theorem flat2_snoc (L : List (Nat × Nat)) (q : Nat × Nat) : flat2 (L ++ [q]) = flat2 L ++ [.int .u64 (q.1 : Int), .int .u64 (q.2 : Int)] := by simp [flat2]

theorem runStep_nil (pr : Nat → Int) (n : Nat) : runStep pr [] n = [(n, n + 1)] := rfl
theorem runStep_on {pr : Nat → Int} {L : List (Nat × Nat)} {a n : Nat} (h : pr (n - 1) = pr n) : runStep pr (L ++ [(a, n)]) n = L ++ [(a, n + 1)] := by simp [runStep, h]
theorem runStep_off {pr : Nat → Int} {L : List (Nat × Nat)} {a z n : Nat} (h : ¬ (z = n ∧ pr (n - 1) = pr n)) : runStep pr (L ++ [(a, z)]) n = L ++ [(a, z)] ++ [(n, n + 1)] := by simp [runStep, h]

/-- Each run ends behind its begin, at most where pages end. -/
def RunsIn (L : List (Nat × Nat)) : Prop := ∀ q ∈ L, q.1 < q.2 ∧ q.2 ≤ 34359738368
theorem RunsIn.step {pr : Nat → Int} {L : List (Nat × Nat)} {n : Nat} (h : RunsIn L) (hn : n < 34359738368) : RunsIn (runStep pr L n) := by
  unfold runStep
  cases hl : L.getLast? with
  | none => intro q hq; rcases List.mem_append.1 hq with hq | hq; exact h q hq; simp at hq; subst hq; simp; omega
  | some p =>
    obtain ⟨a, z⟩ := p
    have hp : (a, z) ∈ L := List.mem_of_getLast? hl
    dsimp only
    split
    · rename_i hc
      intro q hq
      rcases List.mem_append.1 hq with hq | hq
      · exact h q (List.dropLast_subset _ hq)
      · simp at hq; subst hq; have := h _ hp; simp at this ⊢; omega
    · intro q hq; rcases List.mem_append.1 hq with hq | hq; exact h q hq; simp at hq; subst hq; simp; omega

theorem runStep_len (pr : Nat → Int) (L : List (Nat × Nat)) (n : Nat) : (runStep pr L n).length ≤ L.length + 1 := by
  unfold runStep
  cases hl : L.getLast? with
  | none => simp
  | some p =>
    obtain ⟨a, z⟩ := p
    dsimp only
    split <;> simp

theorem Try.infoArr2 : (Try.prog.info? 142).map (fun i => (i.zero, i.size, i.bytes)) = some (some (.agg #[.int .u64 0, .int .u64 0]), 2, 16) := by kernel_rfl

theorem SpAt.drewN {w : World} {s b : Nat} {pgs : List Pg} (h : SpAt w s b pgs) (q : Nat) : SpAt (w.drewN q) s b pgs :=
  h.below ⟨rfl, rfl, rfl, Nat.le_refl _, fun _ _ => rfl⟩

/-- The runs lie in the block g. -/
def Arr2 (W : World) (g : Nat) (L : List (Nat × Nat)) (sp : List Value) : Prop := RowAt W g 142 (flat2 L ++ sp).toArray

theorem arr2_of_own {W : World} {n0 n cap : Nat} {p : Option Addr} {L : List (Nat × Nat)} (h : W.ownsRow n0 142 2 (.slice p n cap) n (flat2 L)) (hn : 0 < n) :
    L.length = n ∧ n ≤ cap ∧ cap ≤ maxLen ∧ ∃ g sp, p = some ⟨g, 0, none⟩ ∧ n0 ≤ g ∧ Arr2 W g L sp ∧ n * 2 + sp.length = cap * 2 := by
  have hl : L.length = n := by have := h.1; rw [flat2_length] at this; omega
  rcases h.2 with ⟨hn', _⟩ | ⟨g', cap', cur, he, hg, hc, h1, h2, h3, h4⟩
  · cases hn'; omega
  · cases he
    refine ⟨hl, h1, h2, g', cur.toList.drop (n * 2), rfl, hg, ?_, ?_⟩
    · unfold Arr2 RowAt
      rw [hc]
      congr 2
      have : cur.toList = flat2 L ++ cur.toList.drop (n * 2) := by rw [← h4, List.take_append_drop]
      rw [← this]
    · rw [List.length_drop, Array.length_toList, h3]; omega

theorem own_of_arr2 {W : World} {n0 g n cap : Nat} {L : List (Nat × Nat)} {sp : List Value} (h : Arr2 W g L sp) (hl : L.length = n) (hn : n ≤ cap) (hg : n0 ≤ g) (hm : cap ≤ maxLen) (hs : n * 2 + sp.length = cap * 2) :
    W.ownsRow n0 142 2 (.slice (some ⟨g, 0, none⟩) n cap) n (flat2 L) := by
  refine ⟨by rw [flat2_length]; omega, .inr ⟨g, cap, _, rfl, hg, h, hn, hm, by simp [flat2_length]; omega, ?_⟩⟩
  rw [List.take_append_of_le_length (by rw [flat2_length]; omega), List.take_of_length_le (by rw [flat2_length]; omega)]

theorem Arr2.last {W : World} {g a z : Nat} {L : List (Nat × Nat)} {sp : List Value} (h : Arr2 W g (L ++ [(a, z)]) sp) : W.cell? ⟨g, L.length * 2 + 1, none⟩ = some (.int .u64 (z : Int)) := by
  rw [RowAt.cell h, List.getElem?_toArray, flat2_snoc, List.append_assoc, List.getElem?_append_right (by rw [flat2_length]; omega), flat2_length]
  simp

theorem Arr2.set {W : World} {g a z y : Nat} {L : List (Nat × Nat)} {sp : List Value} (h : Arr2 W g (L ++ [(a, z)]) sp) : Arr2 (W.setCell ⟨g, L.length * 2 + 1, none⟩ (.int .u64 (y : Int))) g (L ++ [(a, y)]) sp := by
  have h1 := RowAt.same h (.int .u64 (y : Int)) (i := L.length * 2 + 1)
  unfold Arr2
  have e : (flat2 (L ++ [(a, y)]) ++ sp).toArray = (flat2 (L ++ [(a, z)]) ++ sp).toArray.setIfInBounds (L.length * 2 + 1) (.int .u64 (y : Int)) := by
    rw [flat2_snoc, flat2_snoc, List.setIfInBounds_toArray, List.append_assoc, List.append_assoc, List.set_append_right _ _ (by rw [flat2_length]; omega), flat2_length]
    simp
  rw [e]; exact h1

/-- A round of runs has come to its end. -/
def RunR (pgs : List Pg) (ys : List Nat) (B : Nat) (w2 : World) (j : Nat) (v : Value) (wr : World) : Prop :=
  ∃ L, L = runsM (pgP pgs) (ys.take j) ∧ wr.ownsRow B 142 2 v L.length (flat2 L) ∧ Below B w2 wr ∧ RunsIn L ∧ L.length ≤ j

theorem RunR.more {pgs : List Pg} {ys : List Nat} {B j n : Nat} {w2 W1 W3 : World} {v v' : Value} {L : List (Nat × Nat)} (hL : L = runsM (pgP pgs) (ys.take j)) (how : W1.ownsRow B 142 2 v L.length (flat2 L)) (hb : Below B w2 W1) (hB : B ≤ w2.heap.size) (hin : RunsIn L) (hll : L.length ≤ j)
    (hn : ys[j]? = some n) (hn35 : n < 34359738368) (hstep : runStep (pgP pgs) L n = L ++ [(n, n + 1)]) (hown : W3.ownsRow B 142 2 v' (L.length + 1) (flat2 L ++ [.int .u64 (n : Int), .int .u64 ((n + 1 : Nat) : Int)])) (hg : Grew W1 W3 v v') : RunR pgs ys B w2 (j + 1) v' W3 := by
  have hj : j < ys.length := (List.getElem?_eq_some_iff.1 hn).1
  have e : runsM (pgP pgs) (ys.take (j + 1)) = L ++ [(n, n + 1)] := by
    rw [List.take_add_one, hn, Option.toList_some, runsM_snoc, ← hL, hstep]
  refine ⟨L ++ [(n, n + 1)], e.symm, by rw [List.length_append, flat2_snoc]; exact hown, hb.trans (hg.below (Nat.le_trans hB hb.size) (fun k hk => (how.lt k hk).1)), ?_, by simp; omega⟩
  rw [← hstep]; exact hin.step hn35

theorem field_prot2 (w : World) (x : Value) (p : Int) : (Instr.field 101 (.agg #[x, .int .i64 p]) 1).run Try.prog w = .ok (.int .i64 p) w := by kernel_rfl

/-- What runs gives. -/
def RunsEnd (n0 : Nat) (pgs : List Pg) (w : World) (e : Ending) (w' : World) : Prop :=
  ∃ v ys, e = .returned v ∧ ys.Perm (pgs.map (·.no)) ∧ ys.Pairwise (· ≤ ·) ∧ w'.ownsRow n0 142 2 v (runsM (pgP pgs) ys).length (flat2 (runsM (pgP pgs) ys)) ∧ Below w.heap.size w w'

set_option maxRecDepth 100000 in
set_option maxHeartbeats 4000000 in
theorem sp_runs (w : World) (s b : Nat) (pgs : List Pg) (h : SpAt w s b pgs) (hl : pgs.length ≤ 12) (hno : ∀ g ∈ pgs, g.no < 34359738368) :
    Calls Try.prog 55 #[.pointer (some ⟨s, 0, none⟩)] w (RunsEnd w.heap.size pgs w) := by
  have c0 : w.cell? ⟨s, 0, none⟩ = some (.map (some b)) := h.row.cell 0
  have H := hid (And.intro h (And.intro hl hno))
  clear h hl hno
  go_enter Try.func55, Try.ntmps55
  go_wp2_with fail
  refine (keys_fn w b).mono ?_
  rintro e w1 ⟨rfl, rfl⟩
  have hb1 : Below w.heap.size w (w.alloc (.cells #[.map (some b)] 90)) := (Below.refl _ _).alloc (Nat.le_refl _) _
  have hs1 := H.out.1.below hb1
  have HS := hid (And.intro (sorted_keys (w.alloc (.cells #[.map (some b)] 90)) w.heap.size b pgs ((show RowAt _ w.heap.size _ _ from heap_alloc_new _ _).cell 0) hs1.map hs1.nos H.out.2.1) (And.intro hb1 hs1))
  clear hb1 hs1 c0
  go_wp2_with fail
  refine HS.out.1.mono ?_
  rintro e w2 ⟨kv, ys, rfl, hperm, hsort, hown, hb2⟩
  obtain ⟨kp, kc, rfl⟩ := ownsRow_form hown
  have hsp2 := HS.out.2.2.below hb2
  have hbb : Below w.heap.size w w2 := HS.out.2.1.trans (hb2.mono HS.out.2.1.size)
  have hlen : ys.length ≤ 12 := by rw [hperm.length_eq, List.length_map]; exact H.out.2.1
  have H2 := hid (And.intro hperm (And.intro hsort (And.intro hown (And.intro hsp2 (And.intro hbb hlen)))))
  clear hperm hsort hown hb2 hsp2 hbb
  go_wp2_with fail
  obtain ⟨B, hB⟩ : ∃ B, B = w2.heap.size := ⟨_, rfl⟩
  have HB := hid hB
  clear hB
  go_loopw [3, 14] (fun v i wr => ∃ j : Nat, j ≤ ys.length ∧ i = .int .i64 (j : Int) ∧ RunR pgs ys B w2 j v wr) (fun _ i _ => ys.length - (intOf i).toNat)
  case atStart => exact ⟨0, Nat.zero_le _, rfl, [], rfl, World.ownsRow_nil _ _ _ _, Below.refl _ _, fun q hq => (by cases hq), Nat.le_refl _⟩
  case round =>
    obtain ⟨j, hj, rfl, L, hL, how, hbw, hin, hll⟩ := hrel
    obtain ⟨vp, vc, rfl⟩ := ownsRow_form how
    obtain ⟨N, hN⟩ : ∃ N, N = L.length := ⟨_, rfl⟩
    rw [← hN]
    have hNN := hid hN
    have hbw2 : Below w2.heap.size w2 wr := by rw [← HB.out]; exact hbw
    have hspw := H2.out.2.2.2.1.below hbw2
    have c1 : wr.cell? ⟨s, 0, none⟩ = some (.map (some b)) := hspw.row.cell 0
    have HW := hid (And.intro hL (And.intro how (And.intro hbw (And.intro hin (And.intro hll hspw)))))
    by_cases hlt : j < ys.length
    · have hltz : decide ((j : Int) < (ys.length : Int)) = true := by rw [decide_eq_true_eq]; omega
      have hltz2 : decide (j < ys.length) = true := by rw [decide_eq_true_eq]; omega
      obtain ⟨n, hn⟩ : ∃ n, ys[j]? = some n := ⟨_, List.getElem?_eq_getElem hlt⟩
      obtain ⟨gk, rfl⟩ : ∃ g, kp = some ⟨g, 0, none⟩ := by
        rcases H2.out.2.2.1.2 with ⟨he, hz⟩ | ⟨g, cap', cur, he, _⟩
        · omega
        · cases he; exact ⟨g, rfl⟩
      obtain ⟨-, -, -, sp, harr, -, -⟩ := arr_of_own H2.out.2.2.1
      have ck : wr.cell? ⟨gk, j, none⟩ = some (.int .u64 (n : Int)) := below_cell' hbw2 (World.block_lt_of_cell? w2 _ (harr.cell hn)) (harr.cell hn)
      have hn35 : n < 34359738368 := by
        have : n ∈ pgs.map (·.no) := H2.out.1.mem_iff.1 (List.mem_of_getElem? hn)
        obtain ⟨q, hq, e⟩ := List.mem_map.1 this
        rw [← e]; exact H.out.2.2 q hq
      have hln : ∀ (W : World), SpAt W s b pgs → ∀ m : Nat, m < 2 ^ 64 → ∃ x, ∀ q, (Instr.lookup 90 (.map (some b)) (.int .u64 (m : Int)) false).run Try.prog (W.drewN q) = .ok (.agg #[x, .int .i64 (pgP pgs m)]) (W.drewN q) := by
        intro W hW m hm
        cases hp : pgAt pgs m with
        | none => exact ⟨.pointer none, fun q => by have := (SpAt.drewN hW q).look hm; rw [hp] at this; rw [this]; unfold pgP; rw [hp]; rfl⟩
        | some g => exact ⟨.pointer (some ⟨g.blk, 0, none⟩), fun q => by have := (SpAt.drewN hW q).look hm; rw [hp] at this; rw [this]; unfold pgP; rw [hp]; rfl⟩
      clear hL how hbw hspw hin hbw2 hN
      have HN := hid hn
      clear hn harr
      obtain ⟨i0, hi, hz0, hz1, hz2⟩ := info_parts Try.infoArr2
      have hw1 : IntKind.u64.wrap ((n : Int) + 1) = ((n + 1 : Nat) : Int) := (IntWalk.u64_in _ (by omega)).trans (by omega)
      have hfr := hid (And.intro hlt (And.intro hn35 hll))
      have HI := hid (And.intro hi (And.intro hz0 (And.intro hz1 hz2)))
      clear hn35 hi hz0 hz1 hz2 hll
      rcases List.eq_nil_or_concat L with hL0 | ⟨L', q, hL0⟩
      · subst hL0
        have hN0 : N = 0 := hNN.out
        subst hN0
        clear hln
        go_wp2_with fail
        go_quiet (fail)
        go_wp2_with (at_builtin; go_loud (refine wpList_append_grew _ rfl _ _ 140 140 rfl B 142 i0 _ 2 16 Try.underlying140 HI.out.1 HI.out.2.1 HI.out.2.2.1 HI.out.2.2.2 rfl _ 0 [] rfl (ownsRow_drewN (HW.out.2.1.alloc _) _) _ 1 [.int .u64 (n : Int), .int .u64 ((n + 1 : Nat) : Int)] rfl (Src.laid (wr.drewN _) Try.underlying140 _ 1 rfl (by simp [Value.oneCell']) _ rfl) (by decide) (by decide) ?c3 ?_))
        case c3 => have := HW.out.2.2.1.size; rw [HB.out]; simp; omega
        intro v' w3 hown hg
        have hR := RunR.more HW.out.1 (ownsRow_drewN (HW.out.2.1.alloc _) _) (Below.trans HW.out.2.2.1 ((below_drewN ((Below.refl _ wr).alloc (Nat.le_refl _) (.cells #[.int .u64 (n : Int), .int .u64 ((n + 1 : Nat) : Int)] 142)) nq).mono (by have := HW.out.2.2.1.size; rw [HB.out]; exact this))) (by rw [HB.out]; exact Nat.le_refl _) HW.out.2.2.2.1 hfr.out.2.2 HN.out hfr.out.2.1 (runStep_nil _ _) hown hg
        obtain ⟨p3, c3, rfl⟩ := ownsRow_form hown
        have HRR := hid hR
        clear hown hg hR
        go_wp2_with fail
        go_roundw
        case rel => exact ⟨j + 1, hfr.out.1, by go_num, HRR.out⟩
        case measure => simp [intOf]; have := hfr.out.1; omega
      · obtain ⟨a, z⟩ := q
        rw [List.concat_eq_append] at hL0
        subst hL0
        obtain ⟨k, hk⟩ : ∃ k, k = L'.length := ⟨_, rfl⟩
        have hNk : N = k + 1 := by rw [hNN.out, hk]; simp
        have how' := HW.out.2.1
        rw [← hNN.out] at how'
        obtain ⟨-, hNc, hcm, g, sp2, rfl, hgB, ha2, hsp2⟩ := arr2_of_own how' (by omega)
        have cz : wr.cell? ⟨g, k * 2 + 1, none⟩ = some (.int .u64 (z : Int)) := by rw [hk]; exact ha2.last
        have fz : wr.frozen? ⟨g, k * 2 + 1, none⟩ = false := RowAt.own ha2 _
        have hwk : IntKind.i64.wrap ((N : Int) - 1) = (k : Int) := (IntWalk.i64_in _ (by have := hfr.out.2.2; have := hNN.out; omega)).trans (by omega)
        have hkN : k < N := by omega
        have hkN2 : (k : Int) < (N : Int) := by omega
        have hk0 : decide ((0 : Int) ≤ (k : Int)) = true := by rw [decide_eq_true_eq]; omega
        have HA := hid (And.intro how' (And.intro hNc (And.intro hcm (And.intro hgB (And.intro ha2 (And.intro hsp2 (And.intro hk hNk)))))))
        clear hNk how' hNc hcm hgB ha2 hsp2 hk
        by_cases hz : z = n
        · have hz1 : 1 ≤ n := by have := HW.out.2.2.2.1 (a, z) (by simp); simp at this; omega
          obtain ⟨x1, hl1⟩ := hln wr HW.out.2.2.2.2.2 (n - 1) (by have := hfr.out.2.1; omega)
          obtain ⟨x2, hl2⟩ := hln wr HW.out.2.2.2.2.2 n (by have := hfr.out.2.1; omega)
          have hfd1 := fun w => field_prot2 w x1 (pgP pgs (n - 1))
          have hfd2 := fun w => field_prot2 w x2 (pgP pgs n)
          have hwm : IntKind.u64.wrap ((n : Int) - 1) = ((n - 1 : Nat) : Int) := (IntWalk.u64_in _ (by have := hfr.out.2.1; omega)).trans (by omega)
          have hwm2 : ((n - 1 : Nat) : Int) = (n : Int) - 1 := by omega
          obtain ⟨m, hm⟩ : ∃ m, m = n - 1 := ⟨_, rfl⟩
          rw [← hm] at hl1 hwm hfd1
          have hzn : ((z : Int) == (n : Int)) = true := by rw [beq_iff_eq]; omega
          have hzn2 : (z == n) = true := by rw [beq_iff_eq]; exact hz
          have hln0 := hid hln
          clear hln hwm2
          obtain ⟨p1, hp1⟩ : ∃ p1, p1 = pgP pgs m := ⟨_, rfl⟩
          obtain ⟨p2, hp2⟩ : ∃ p2, p2 = pgP pgs n := ⟨_, rfl⟩
          rw [← hp1] at hl1 hfd1
          rw [← hp2] at hl2 hfd2
          have hpq := hid (And.intro hp1 (And.intro hp2 (And.intro hm hz)))
          clear hp1 hp2 hm hz
          by_cases hpp : p1 = p2
          · have hd7 : (p1 == p2) = true := by rw [beq_iff_eq]; exact hpp
            have hstep := hid (show runStep (pgP pgs) (L' ++ [(a, z)]) n = L' ++ [(a, n + 1)] by rw [hpq.out.2.2.2]; exact runStep_on (by rw [← hpq.out.2.2.1, ← hpq.out.1, ← hpq.out.2.1]; exact hpp))
            have hpp2 := hid hpp
            clear hpp
            go_wp2_with fail
            go_quiet (fail)
            go_wp2_with fail
            have hwz : IntKind.u64.wrap ((z : Int) + 1) = ((n + 1 : Nat) : Int) := by rw [hpq.out.2.2.2]; exact hw1
            go_region
            go_wp2_with fail
            go_roundw
            case rel =>
              refine ⟨j + 1, hfr.out.1, by go_num, L' ++ [(a, n + 1)], ?_, ?_, ?_, ?_, ?_⟩
              · rw [List.take_add_one, HN.out, Option.toList_some, runsM_snoc, ← HW.out.1, hstep.out]
              · obtain ⟨a1, a2, a3, a4, a5, a6, a7, a8⟩ := HA.out
                have hs := Arr2.set (y := n + 1) a5
                rw [← a7] at hs
                rw [show (L' ++ [(a, n + 1)]).length = N from by rw [a8, a7]; simp]
                exact ownsRow_drewN (own_of_arr2 hs (by rw [a8, a7]; simp) a2 a4 a3 a6) _
              · exact below_drewN (HW.out.2.2.1.setCell (p := ⟨g, k * 2 + 1, none⟩) HA.out.2.2.2.1 _) _
              · rw [← hstep.out]; exact HW.out.2.2.2.1.step hfr.out.2.1
              · have := hfr.out.2.2; simp at this ⊢; omega
            case measure => simp [intOf]; have := hfr.out.1; omega
          · have hd7 : (p1 == p2) = false := by rw [beq_eq_false_iff_ne]; exact hpp
            have hstep := hid (runStep_off (pr := pgP pgs) (L := L') (a := a) (z := z) (n := n) (fun h => hpp (by rw [hpq.out.1, hpq.out.2.1, hpq.out.2.2.1]; exact h.2)))
            clear hpp
            go_wp2_with fail
            go_quiet (fail)
            go_wp2_with (at_builtin; go_loud (refine wpList_append_grew _ rfl _ _ 140 140 rfl B 142 i0 _ 2 16 Try.underlying140 HI.out.1 HI.out.2.1 HI.out.2.2.1 HI.out.2.2.2 rfl _ N (flat2 (L' ++ [(a, z)])) rfl (ownsRow_drewN (HA.out.1.alloc _) _) _ 1 [.int .u64 (n : Int), .int .u64 ((n + 1 : Nat) : Int)] rfl (Src.laid (wr.drewN _) Try.underlying140 _ 1 rfl (by simp [Value.oneCell']) _ rfl) ?c1 ?c2 ?c3 ?_))
            case c1 => have h1 := hfr.out.2.2; have h2 := hNN.out; simp only [maxLen]; omega
            case c2 => have h1 := hfr.out.2.2; have h2 := hNN.out; omega
            case c3 => have := HW.out.2.2.1.size; rw [HB.out]; simp; omega
            intro v' w3 hown hg
            have hR := RunR.more HW.out.1 (ownsRow_drewN (HW.out.2.1.alloc _) _) (Below.trans HW.out.2.2.1 ((below_drewN ((Below.refl _ wr).alloc (Nat.le_refl _) (.cells #[.int .u64 (n : Int), .int .u64 ((n + 1 : Nat) : Int)] 142)) nq).mono (by have := HW.out.2.2.1.size; rw [HB.out]; exact this))) (by rw [HB.out]; exact Nat.le_refl _) HW.out.2.2.2.1 hfr.out.2.2 HN.out hfr.out.2.1 hstep.out (by rw [← hNN.out]; exact hown) (by rw [← hNN.out]; exact hg)
            obtain ⟨p3, c3, rfl⟩ := ownsRow_form hown
            have HRR := hid hR
            clear hown hg hR
            go_wp2_with fail
            go_roundw
            case rel => exact ⟨j + 1, hfr.out.1, by go_num, HRR.out⟩
            case measure => simp [intOf]; have := hfr.out.1; omega
        · have hzn : ((z : Int) == (n : Int)) = false := by rw [beq_eq_false_iff_ne]; omega
          have hzn2 : (z == n) = false := by rw [beq_eq_false_iff_ne]; exact hz
          have hstep := hid (runStep_off (pr := pgP pgs) (L := L') (a := a) (z := z) (n := n) (fun h => hz h.1))
          clear hln hz
          go_wp2_with fail
          go_quiet (fail)
          go_wp2_with (at_builtin; go_loud (refine wpList_append_grew _ rfl _ _ 140 140 rfl B 142 i0 _ 2 16 Try.underlying140 HI.out.1 HI.out.2.1 HI.out.2.2.1 HI.out.2.2.2 rfl _ N (flat2 (L' ++ [(a, z)])) rfl (ownsRow_drewN (HA.out.1.alloc _) _) _ 1 [.int .u64 (n : Int), .int .u64 ((n + 1 : Nat) : Int)] rfl (Src.laid (wr.drewN _) Try.underlying140 _ 1 rfl (by simp [Value.oneCell']) _ rfl) ?c1 ?c2 ?c3 ?_))
          case c1 => have h1 := hfr.out.2.2; have h2 := hNN.out; simp only [maxLen]; omega
          case c2 => have h1 := hfr.out.2.2; have h2 := hNN.out; omega
          case c3 => have := HW.out.2.2.1.size; rw [HB.out]; simp; omega
          intro v' w3 hown hg
          have hR := RunR.more HW.out.1 (ownsRow_drewN (HW.out.2.1.alloc _) _) (Below.trans HW.out.2.2.1 ((below_drewN ((Below.refl _ wr).alloc (Nat.le_refl _) (.cells #[.int .u64 (n : Int), .int .u64 ((n + 1 : Nat) : Int)] 142)) nq).mono (by have := HW.out.2.2.1.size; rw [HB.out]; exact this))) (by rw [HB.out]; exact Nat.le_refl _) HW.out.2.2.2.1 hfr.out.2.2 HN.out hfr.out.2.1 hstep.out (by rw [← hNN.out]; exact hown) (by rw [← hNN.out]; exact hg)
          obtain ⟨p3, c3, rfl⟩ := ownsRow_form hown
          have HRR := hid hR
          clear hown hg hR
          go_wp2_with fail
          go_roundw
          case rel => exact ⟨j + 1, hfr.out.1, by go_num, HRR.out⟩
          case measure => simp [intOf]; have := hfr.out.1; omega
    · have hltz : decide ((j : Int) < (ys.length : Int)) = false := by rw [decide_eq_false_iff_not]; omega
      have hltz2 : decide (j < ys.length) = false := by rw [decide_eq_false_iff_not]; omega
      have hje : j = ys.length := by omega
      have hF := hid hje
      clear hje hlt hL how hbw hspw hin hbw2 hN
      go_wp2_with fail
      go_ret
      have e1 := HW.out.1
      rw [hF.out, List.take_length] at e1
      refine ⟨_, ys, rfl, H2.out.1, H2.out.2.1, ?_, H2.out.2.2.2.2.1.trans (HW.out.2.2.1.mono (by rw [HB.out]; exact H2.out.2.2.2.2.1.size))⟩
      rw [hNN.out, ← e1]
      exact ownsRow_base HW.out.2.1 (by rw [HB.out]; exact H2.out.2.2.2.2.1.size)
end Go.Proofs.Ytacmjpkcimjjpaa
