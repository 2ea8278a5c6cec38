/- The reference's Sorted: the walk. -/
import Derived.Test.YthhjdkcnkdffcaaGreatZRfK
import Derived.Deep.DeepCutAuto
namespace Go.Proofs.YthhjdkcnkdffcaaGreat
set_option linter.unusedSimpArgs false
set_option linter.unusedVariables false
open Go.RowKit Go.Sort
theorem nameLe_or (x y : Exp) : (Op.bytesLess x.name y.name || x.name == y.name) = nameLe x y := by
  unfold nameLe
  rw [show Op.bytesLess x.name y.name = ltStr x.name y.name from bytesLess_eq _ _]
  cases h1 : ltStr x.name y.name with
  | true => rw [ltStr_asymm h1]; rfl
  | false =>
    cases h2 : ltStr y.name x.name with
    | true =>
      have : (x.name == y.name) = false := by
        rw [beq_eq_false_iff_ne]; intro e; rw [e, swo_ltStr.irrefl] at h2; cases h2
      rw [this]; rfl
    | false => rw [ltStr_anti h1 h2]; simp
set_option maxHeartbeats 1000000 in
theorem ref_short (f : Nat) (W : World) (v : Value) (xs : List Exp) (h : ES W v xs) (hs : xs.length < 2) : Calls Tryz.prog 19 #[v] W (SortEnd W (sortedR f xs)) := by
  have hr : sortedR f xs = xs := by
    cases f with
    | zero => rfl
    | succ f => rw [sortedR, if_pos hs]
  rw [hr]
  obtain ⟨p, cap, rfl⟩ := h.form
  obtain ⟨n, hn⟩ : ∃ n, n = xs.length := ⟨_, rfl⟩
  rw [← hn] at h hs ⊢
  have hd1 : decide ((n : Int) < 2) = true := by simp; omega
  have hd2 : decide (n < 2) = true := by simp; omega
  obtain ⟨i0, hi0, hz0, hz1, hz2⟩ := info_parts Tryz.infoExport
  have H := hid (And.intro h (And.intro hn (And.intro hi0 (And.intro hz0 (And.intro hz1 hz2)))))
  clear h hn hr hi0 hz0 hz1 hz2
  go_enter Tryz.func19, Tryz.ntmps19
  go_wp2_with (at_builtin; refine wpList_append_grew _ rfl _ _ _ _ rfl W.heap.size 25 i0 _ 7 72 Tryz.underlying30 H.out.2.2.1 H.out.2.2.2.1 H.out.2.2.2.2.1 H.out.2.2.2.2.2 rfl _ 0 [] rfl (World.ownsRow_nil _ _ _ _) _ n (expCells xs) rfl (Src.exps Tryz.underlying30 H.out.1) ?c3 ?c4 ?c5 ?_)
  case c3 => exact Nat.le_trans (show 0 + n ≤ 20000 by omega) (by decide)
  case c4 => omega
  case c5 => exact Nat.le_refl _
  intro v1 W1 hl1 hg1
  obtain ⟨vp, vc, hv1⟩ := ownsRow_form hl1
  subst hv1
  have hb1 : Below W.heap.size W W1 := hg1.below (Nat.le_refl _) (fun k e => by cases e)
  have H1 := hid (And.intro hl1 hb1)
  clear hl1 hg1 hb1
  go_wp2_with fail
  go_ret
  exact ⟨_, rfl, by rw [← H.out.2.1]; exact H1.out.1, H1.out.2⟩
set_option maxHeartbeats 4000000 in
set_option maxRecDepth 4000 in
theorem ref_sorted : ∀ (f : Nat) (W : World) (v : Value) (xs : List Exp), ES W v xs → xs.length ≤ 20000 → xs.length ≤ f + 1 → Calls Tryz.prog 19 #[v] W (SortEnd W (sortedR f xs)) := by
  intro f
  induction f with
  | zero =>
    intro W v xs h h5 hf
    exact ref_short 0 W v xs h (by omega)
  | succ f ih =>
    intro W v xs h h5 hf
    by_cases hs : xs.length < 2
    · exact ref_short (f + 1) W v xs h hs
    obtain ⟨p, cap, rfl⟩ := h.form
    obtain ⟨n, hn⟩ : ∃ n, n = xs.length := ⟨_, rfl⟩
    rw [← hn] at h ⊢
    have hcap : n ≤ cap := by obtain ⟨p', cap', he, h1, _⟩ := h; cases he; omega
    obtain ⟨k, hk⟩ : ∃ k, k = n / 2 := ⟨_, rfl⟩
    have hA := h.take (k := k) (by omega)
    have hB := h.drop (k := k) (by omega)
    have hlA : (xs.take k).length = k := by rw [List.length_take]; omega
    have hlB : (xs.drop k).length = n - k := by rw [List.length_drop]; omega
    have hd1 : decide ((n : Int) < 2) = false := by simp; omega
    have hd2 : decide (n < 2) = false := by simp; omega
    have hq : IntKind.i64.wrap ((n : Int) / 2) = (k : Int) := by rw [show (n : Int) / 2 = (k : Int) by omega]; exact IntWalk.i64_in _ (by omega)
    have hq2 : (n : Int) / 2 = (k : Int) := by omega
    have hwk : IntKind.i64.wrap (k : Int) = (k : Int) := IntWalk.i64_in _ (by omega)
    have hq3 : Int.tdiv (n : Int) 2 = (k : Int) := by rw [Int.tdiv_eq_ediv_of_nonneg (by omega)]; exact hq2
    have hq4 : n / 2 = k := by omega
    have hsl : ∀ w : World, (Instr.slice 30 (.slice p n cap) (some (.int .i64 (k : Int))) none none).run Tryz.prog w = .ok (.slice (subE p k cap) (n - k) (cap - k)) w := fun w => by
      have := run_subEl (P := Tryz.prog) (w := w) (t := 30) p n cap un_exps (sz_exp w) .i64 (k : Int) (by omega) (by omega)
      rw [this]; rfl
    have hsh : ∀ w : World, (Instr.slice 30 (.slice p n cap) none (some (.int .i64 (k : Int))) none).run Tryz.prog w = .ok (.slice p k cap) w := fun w => by
      have := run_subEh (P := Tryz.prog) (w := w) (t := 30) p n cap un_exps (sz_exp w) .i64 (k : Int) (by omega) (by omega)
      rw [this]; rfl
    have hys : sortedR (f + 1) xs = List.merge (sortedR f (xs.take k)) (sortedR f (xs.drop k)) nameLe := by
      rw [sortedR, if_neg (by omega), ← hn, ← hk]
    have hla : (sortedR f (xs.take k)).length = k := by rw [(sortedR_perm f _).length_eq, hlA]
    have hlb : (sortedR f (xs.drop k)).length = n - k := by rw [(sortedR_perm f _).length_eq, hlB]
    have HA := hid (fun (V : World) (hb : Below W.heap.size W V) => ih V _ (xs.take k) (hA.below hb) (by omega) (by omega))
    have HB := hid (fun (V : World) (hb : Below W.heap.size W V) => ih V _ (xs.drop k) (hB.below hb) (by omega) (by omega))
    obtain ⟨ya, hya⟩ : ∃ ya, ya = sortedR f (xs.take k) := ⟨_, rfl⟩
    obtain ⟨yb, hyb⟩ : ∃ yb, yb = sortedR f (xs.drop k) := ⟨_, rfl⟩
    rw [← hya] at hys hla HA
    rw [← hyb] at hys hlb HB
    rw [hys]
    obtain ⟨ys, hye⟩ : ∃ ys, ys = List.merge ya yb nameLe := ⟨_, rfl⟩
    rw [← hye]
    have HE := hid (And.intro hye (And.intro hla hlb))
    have hkn : k ≤ n := by omega
    have hn5 : n ≤ 20000 := by omega
    clear ih h hA hB hlA hlB hs hf hn hk hys hya hyb hye hla hlb h5
    go_enter Tryz.func19, Tryz.ntmps19
    go_upto_region 3 with fail
    have hW0 : Below W.heap.size W W.drew := ⟨rfl, rfl, rfl, Nat.le_refl _, fun _ _ => rfl⟩
    have HW0 := hid hW0
    clear hW0
    go_cut [3, 4] (fun v3 v4 wx => HalvesR W ya yb v3 v4 wx)
    case first =>
      go_region_with (first
        | (go_at_call 19; (with_reducible refine (HA.out _ HW0.out).mono ?_); rintro e w1 ⟨va, rfl, oa, ba⟩; have H1 := hid (And.intro oa (And.intro (HW0.out.trans ba) ba)); clear oa ba)
        | (go_at_call 19; (with_reducible refine (HB.out _ H1.out.2.1).mono ?_); rintro e w2 ⟨vb, rfl, ob, bb⟩; have H2 := hid (And.intro ob bb); clear ob bb)
        | (go_at_call 19; (with_reducible refine (HB.out _ HW0.out).mono ?_); rintro e w1 ⟨vb, rfl, ob, bb⟩; have G1 := hid (And.intro ob (And.intro (HW0.out.trans bb) bb)); clear ob bb)
        | (go_at_call 19; (with_reducible refine (HA.out _ G1.out.2.1).mono ?_); rintro e w2 ⟨va, rfl, oa, ba⟩; have G2 := hid (And.intro oa ba); clear oa ba)
        | fail "no call")
      all_goals
        go_wp2_with fail
        go_meet
        first
        | exact halves_ab H1.out.1 H1.out.2.1 H2.out.1 H2.out.2
        | exact halves_ba G1.out.1 G1.out.2.1 G2.out.1 G2.out.2
    case rest =>
      obtain ⟨hb3, oa, ob, hap⟩ := hcut
      obtain ⟨ap, acap, rfl⟩ := ownsRow_form oa
      obtain ⟨bp, bcap, rfl⟩ := ownsRow_form ob
      have hM : MergeR W n ys (.slice ap ya.length acap) (.slice bp yb.length bcap) (.slice none 0 0) wc :=
        ⟨ya, yb, [], ES.of_owns oa (by have := HE.out.2.1; omega), ES.of_owns ob (by have := HE.out.2.2; omega), World.ownsRow_nil _ _ _ _, (fun k _ e => by cases e), (fun k _ e => by cases e), hb3, HE.out.1.symm, by have h1 := HE.out.2.1; have h2 := HE.out.2.2; simp; omega⟩
      have HM := hid hM
      clear hb3 oa ob hap hM hsl hsh hq hq2 hd1 hd2
      go_wp2_with fail
      go_loopw [3, 4, 5] (fun a b o wr => MergeR W n ys a b o wr) (fun a b _ _ => slLen a + slLen b)
      case atStart => exact HM.out
      case round =>
        obtain ⟨as_, bs_, os, h3, h4, h5', n3, n4, hb, hm, ht⟩ := hrel
        obtain ⟨p3, c3, rfl⟩ := h3.form
        obtain ⟨p4, c4, rfl⟩ := h4.form
        obtain ⟨p5, c5, rfl⟩ := ownsRow_form h5'
        have HH := hid (And.intro h3 (And.intro h4 (And.intro h5' (And.intro n3 (And.intro n4 (And.intro hb (And.intro hm ht)))))))
        obtain ⟨i0, hi0, hz0, hz1, hz2⟩ := info_parts Tryz.infoExport
        have HI := hid (And.intro hi0 (And.intro hz0 (And.intro hz1 hz2)))
        have hbs := hb.size
        clear h3 h4 h5' n3 n4 hb hm ht hi0 hz0 hz1 hz2
        cases as_ with
        | nil =>
          cases bs_ with
          | nil =>
            go_wp2_with fail
            go_ret
            have hm := HH.out.2.2.2.2.2.2.1
            simp at hm
            subst hm
            exact ⟨_, rfl, HH.out.2.2.1, HH.out.2.2.2.2.2.1⟩
          | cons y zs =>
            obtain ⟨gb, offb, rfl, y0, y1, y2, y3, y4, y5, y6⟩ := ES.head HH.out.2.1
            simp only [List.length_cons, List.length_nil] at HH ⊢
            have hq6 : ((zs.length : Int) + 1 == 0) = false := by rw [beq_eq_false_iff_ne]; omega
            go_upto_region 6 with fail
            go_cut [49] (fun v wx => v = .bool false ∧ ∃ q, wx = wr.drewN q)
            case first =>
              go_quiet (fail)
              go_wp2_with fail
              go_meet
              exact ⟨rfl, _, rfl⟩
            case rest =>
              obtain ⟨rfl, q, rfl⟩ := hcut
              obtain ⟨V, hV⟩ : ∃ V, V = wr.drewN q := ⟨_, rfl⟩
              have h3 := HH.out.1.heap (w' := V) (by rw [hV]; rfl)
              have h4 := HH.out.2.1.heap (w' := V) (by rw [hV]; rfl)
              have h5 : V.ownsRow W.heap.size 25 7 (.slice p5 os.length c5) os.length (expCells os) := by rw [hV]; exact HH.out.2.2.1
              have hb : Below W.heap.size W V := by rw [hV]; exact ⟨HH.out.2.2.2.2.2.1.os, HH.out.2.2.2.2.2.1.tape, HH.out.2.2.2.2.2.1.output, HH.out.2.2.2.2.2.1.size, HH.out.2.2.2.2.2.1.block⟩
              rw [← hV]
              obtain ⟨_, _, he, y0', y1', y2', y3', y4', y5', y6'⟩ := ES.head h4
              cases he
              have htot := HH.out.2.2.2.2.2.2.2
              try simp only [List.length_cons, List.length_nil] at htot
              have hbs2 := hb.size
              have HV := hid (And.intro h3 (And.intro h4 (And.intro h5 hb)))
              have htl : ∀ w : World, (Instr.slice 30 (.slice (some ⟨gb, offb, none⟩) (zs.length + 1) c4) (some (.int .i64 1)) none none).run Tryz.prog w = .ok (.slice (subE (some ⟨gb, offb, none⟩) 1 c4) zs.length (c4 - 1)) w := fun w => by
                have := run_subEl (P := Tryz.prog) (w := w) (t := 30) (some ⟨gb, offb, none⟩) (zs.length + 1) c4 un_exps (sz_exp w) .i64 1 (by omega) (by omega)
                rw [this]; rfl
              clear hV h3 h4 h5 hb hbs
              clear y0 y1 y2 y3 y4 y5 y6
              go_wp2_with (at_builtin; refine wpList_append_grew _ rfl _ _ _ _ rfl W.heap.size 25 i0 _ 7 72 Tryz.underlying30 HI.out.1 HI.out.2.1 HI.out.2.2.1 HI.out.2.2.2 rfl _ os.length (expCells os) rfl (ownsRow_below HV.out.2.2.1 ((Below.refl _ _).alloc (Nat.le_refl _) _)) _ 1 y.cells rfl (Src.laid _ Tryz.underlying30 y.cells 1 rfl (by simp [Exp.cells, Value.oneCell']) (0, 0) (by simp)) ?c3 ?c4 ?c5 ?_)
              case c3 => exact Nat.le_trans (show os.length + 1 ≤ 20000 by omega) (by decide)
              case c4 => omega
              case c5 => exact Nat.le_trans hbs2 (by simp)
              intro v1 W1 hl1 hg1
              have hg1 : Grew V W1 _ v1 := Grew.under ((Below.refl _ _).alloc (Nat.le_refl _) _) hg1
              obtain ⟨vp, vc, hv1⟩ := ownsRow_form hl1
              subst hv1
              have H1 := hid (And.intro hl1 hg1)
              clear hl1 hg1 y0' y1' y2' y3' y4' y5' y6'
              go_wp2
              go_roundw
              case rel => exact MergeR.step (x := y) HV.out.1 HV.out.2.1 HV.out.2.2.1 HH.out.2.2.2.1 HH.out.2.2.2.2.1 HV.out.2.2.2 H1.out.2 (by rw [expCells_snoc, List.length_append]; exact H1.out.1) (fun V h => h) (fun V h => by have := h.drop (k := 1) (by omega); exact this) (fun k hk => hk) (fun k hk => subE_blk (n := zs.length + 1) (by omega) hk) (by rw [← HH.out.2.2.2.2.2.2.1, List.append_assoc]; simp [List.nil_merge]) (by simp; omega)
              case measure => simp [slLen]
        | cons x xs' =>
          cases bs_ with
          | nil =>
            obtain ⟨ga, offa, rfl, x0, x1, x2, x3, x4, x5, x6⟩ := ES.head HH.out.1
            simp only [List.length_cons, List.length_nil] at HH ⊢
            go_upto_region 6 with fail
            go_cut [49] (fun v wx => v = .bool true ∧ ∃ q, wx = wr.drewN q)
            case first =>
              go_quiet (fail)
              go_wp2_with fail
              go_meet
              exact ⟨rfl, _, rfl⟩
            case rest =>
              obtain ⟨rfl, q, rfl⟩ := hcut
              obtain ⟨V, hV⟩ : ∃ V, V = wr.drewN q := ⟨_, rfl⟩
              have h3 := HH.out.1.heap (w' := V) (by rw [hV]; rfl)
              have h4 := HH.out.2.1.heap (w' := V) (by rw [hV]; rfl)
              have h5 : V.ownsRow W.heap.size 25 7 (.slice p5 os.length c5) os.length (expCells os) := by rw [hV]; exact HH.out.2.2.1
              have hb : Below W.heap.size W V := by rw [hV]; exact ⟨HH.out.2.2.2.2.2.1.os, HH.out.2.2.2.2.2.1.tape, HH.out.2.2.2.2.2.1.output, HH.out.2.2.2.2.2.1.size, HH.out.2.2.2.2.2.1.block⟩
              rw [← hV]
              obtain ⟨_, _, he, x0', x1', x2', x3', x4', x5', x6'⟩ := ES.head h3
              cases he
              have htot := HH.out.2.2.2.2.2.2.2
              try simp only [List.length_cons, List.length_nil] at htot
              have hbs2 := hb.size
              have HV := hid (And.intro h3 (And.intro h4 (And.intro h5 hb)))
              have htl : ∀ w : World, (Instr.slice 30 (.slice (some ⟨ga, offa, none⟩) (xs'.length + 1) c3) (some (.int .i64 1)) none none).run Tryz.prog w = .ok (.slice (subE (some ⟨ga, offa, none⟩) 1 c3) xs'.length (c3 - 1)) w := fun w => by
                have := run_subEl (P := Tryz.prog) (w := w) (t := 30) (some ⟨ga, offa, none⟩) (xs'.length + 1) c3 un_exps (sz_exp w) .i64 1 (by omega) (by omega)
                rw [this]; rfl
              clear hV h3 h4 h5 hb hbs
              clear x0 x1 x2 x3 x4 x5 x6
              go_wp2_with (at_builtin; refine wpList_append_grew _ rfl _ _ _ _ rfl W.heap.size 25 i0 _ 7 72 Tryz.underlying30 HI.out.1 HI.out.2.1 HI.out.2.2.1 HI.out.2.2.2 rfl _ os.length (expCells os) rfl (ownsRow_below HV.out.2.2.1 ((Below.refl _ _).alloc (Nat.le_refl _) _)) _ 1 x.cells rfl (Src.laid _ Tryz.underlying30 x.cells 1 rfl (by simp [Exp.cells, Value.oneCell']) (0, 0) (by simp)) ?c3 ?c4 ?c5 ?_)
              case c3 => exact Nat.le_trans (show os.length + 1 ≤ 20000 by omega) (by decide)
              case c4 => omega
              case c5 => exact Nat.le_trans hbs2 (by simp)
              intro v1 W1 hl1 hg1
              have hg1 : Grew V W1 _ v1 := Grew.under ((Below.refl _ _).alloc (Nat.le_refl _) _) hg1
              obtain ⟨vp, vc, hv1⟩ := ownsRow_form hl1
              subst hv1
              have H1 := hid (And.intro hl1 hg1)
              clear hl1 hg1 x0' x1' x2' x3' x4' x5' x6'
              go_wp2
              go_roundw
              case rel => exact MergeR.step (x := x) HV.out.1 HV.out.2.1 HV.out.2.2.1 HH.out.2.2.2.1 HH.out.2.2.2.2.1 HV.out.2.2.2 H1.out.2 (by rw [expCells_snoc, List.length_append]; exact H1.out.1) (fun V h => by have := h.drop (k := 1) (by omega); exact this) (fun V h => h) (fun k hk => subE_blk (n := xs'.length + 1) (by omega) hk) (fun k hk => hk) (by rw [← HH.out.2.2.2.2.2.2.1, List.append_assoc]; simp) (by simp; omega)
              case measure => simp [slLen]
          | cons y zs =>
            have hle := nameLe_or x y
            have hA0 := ES.head HH.out.1
            have hB0 := ES.head HH.out.2.1
            obtain ⟨ga, offa, rfl, x0, x1, x2, x3, x4, x5, x6⟩ := hA0
            obtain ⟨gb, offb, rfl, y0, y1, y2, y3, y4, y5, y6⟩ := hB0
            cases hD : nameLe x y with
            | true =>
              rw [hD] at hle
              have HD := hid hD
              have HL := hid hle
              clear hD hle y1 y2 y3 y4 y5 y6 x1 x2 x3 x4 x5 x6
              simp only [List.length_cons, List.length_nil] at HH ⊢
              have hq6 : ((zs.length : Int) + 1 == 0) = false := by rw [beq_eq_false_iff_ne]; omega
              have hq7 : decide ((0 : Int) < (xs'.length : Int) + 1) = true := by rw [decide_eq_true_eq]; omega
              go_upto_region 6 with fail
              go_cut [49] (fun v wx => v = .bool true ∧ ∃ q, wx = wr.drewN q)
              case first =>
                go_quiet (fail)
                go_wp2_with fail
                go_meet
                exact ⟨congrArg Value.bool HL.out, _, rfl⟩
              case rest =>
                obtain ⟨rfl, q, rfl⟩ := hcut
                obtain ⟨V, hV⟩ : ∃ V, V = wr.drewN q := ⟨_, rfl⟩
                have h3 := HH.out.1.heap (w' := V) (by rw [hV]; rfl)
                have h4 := HH.out.2.1.heap (w' := V) (by rw [hV]; rfl)
                have h5 : V.ownsRow W.heap.size 25 7 (.slice p5 os.length c5) os.length (expCells os) := by rw [hV]; exact HH.out.2.2.1
                have hb : Below W.heap.size W V := by rw [hV]; exact ⟨HH.out.2.2.2.2.2.1.os, HH.out.2.2.2.2.2.1.tape, HH.out.2.2.2.2.2.1.output, HH.out.2.2.2.2.2.1.size, HH.out.2.2.2.2.2.1.block⟩
                rw [← hV]
                obtain ⟨_, _, he, x0', x1', x2', x3', x4', x5', x6'⟩ := ES.head h3
                cases he
                have htot := HH.out.2.2.2.2.2.2.2
                try simp only [List.length_cons, List.length_nil] at htot
                have hbs2 := hb.size
                have HV := hid (And.intro h3 (And.intro h4 (And.intro h5 hb)))
                have htl : ∀ w : World, (Instr.slice 30 (.slice (some ⟨ga, offa, none⟩) (xs'.length + 1) c3) (some (.int .i64 1)) none none).run Tryz.prog w = .ok (.slice (subE (some ⟨ga, offa, none⟩) 1 c3) xs'.length (c3 - 1)) w := fun w => by
                  have := run_subEl (P := Tryz.prog) (w := w) (t := 30) (some ⟨ga, offa, none⟩) (xs'.length + 1) c3 un_exps (sz_exp w) .i64 1 (by omega) (by omega)
                  rw [this]; rfl
                clear hV h3 h4 h5 hb hbs
                clear x0 y0
                go_wp2_with (at_builtin; refine wpList_append_grew _ rfl _ _ _ _ rfl W.heap.size 25 i0 _ 7 72 Tryz.underlying30 HI.out.1 HI.out.2.1 HI.out.2.2.1 HI.out.2.2.2 rfl _ os.length (expCells os) rfl (ownsRow_below HV.out.2.2.1 ((Below.refl _ _).alloc (Nat.le_refl _) _)) _ 1 x.cells rfl (Src.laid _ Tryz.underlying30 x.cells 1 rfl (by simp [Exp.cells, Value.oneCell']) (0, 0) (by simp)) ?c3 ?c4 ?c5 ?_)
                case c3 => exact Nat.le_trans (show os.length + 1 ≤ 20000 by omega) (by decide)
                case c4 => omega
                case c5 => exact Nat.le_trans hbs2 (by simp)
                intro v1 W1 hl1 hg1
                have hg1 : Grew V W1 _ v1 := Grew.under ((Below.refl _ _).alloc (Nat.le_refl _) _) hg1
                obtain ⟨vp, vc, hv1⟩ := ownsRow_form hl1
                subst hv1
                have H1 := hid (And.intro hl1 hg1)
                clear hl1 hg1 x0' x1' x2' x3' x4' x5' x6'
                go_wp2
                go_roundw
                case rel => exact MergeR.step (x := x) HV.out.1 HV.out.2.1 HV.out.2.2.1 HH.out.2.2.2.1 HH.out.2.2.2.2.1 HV.out.2.2.2 H1.out.2 (by rw [expCells_snoc, List.length_append]; exact H1.out.1) (fun V h => by have := h.drop (k := 1) (by omega); exact this) (fun V h => h) (fun k hk => subE_blk (n := xs'.length + 1) (by omega) hk) (fun k hk => hk) (by rw [← HH.out.2.2.2.2.2.2.1, List.append_assoc]; simp [List.merge, HD.out]) (by simp; omega)
                case measure => simp [slLen]
            | false =>
              rw [hD] at hle
              have HD := hid hD
              have HL := hid hle
              clear hD hle x1 x2 x3 x4 x5 x6 y1 y2 y3 y4 y5 y6
              simp only [List.length_cons, List.length_nil] at HH ⊢
              have hq6 : ((zs.length : Int) + 1 == 0) = false := by rw [beq_eq_false_iff_ne]; omega
              have hq7 : decide ((0 : Int) < (xs'.length : Int) + 1) = true := by rw [decide_eq_true_eq]; omega
              go_upto_region 6 with fail
              go_cut [49] (fun v wx => v = .bool false ∧ ∃ q, wx = wr.drewN q)
              case first =>
                go_quiet (fail)
                go_wp2_with fail
                go_meet
                exact ⟨congrArg Value.bool HL.out, _, rfl⟩
              case rest =>
                obtain ⟨rfl, q, rfl⟩ := hcut
                obtain ⟨V, hV⟩ : ∃ V, V = wr.drewN q := ⟨_, rfl⟩
                have h3 := HH.out.1.heap (w' := V) (by rw [hV]; rfl)
                have h4 := HH.out.2.1.heap (w' := V) (by rw [hV]; rfl)
                have h5 : V.ownsRow W.heap.size 25 7 (.slice p5 os.length c5) os.length (expCells os) := by rw [hV]; exact HH.out.2.2.1
                have hb : Below W.heap.size W V := by rw [hV]; exact ⟨HH.out.2.2.2.2.2.1.os, HH.out.2.2.2.2.2.1.tape, HH.out.2.2.2.2.2.1.output, HH.out.2.2.2.2.2.1.size, HH.out.2.2.2.2.2.1.block⟩
                rw [← hV]
                obtain ⟨_, _, he, y0', y1', y2', y3', y4', y5', y6'⟩ := ES.head h4
                cases he
                have htot := HH.out.2.2.2.2.2.2.2
                try simp only [List.length_cons, List.length_nil] at htot
                have hbs2 := hb.size
                have HV := hid (And.intro h3 (And.intro h4 (And.intro h5 hb)))
                have htl : ∀ w : World, (Instr.slice 30 (.slice (some ⟨gb, offb, none⟩) (zs.length + 1) c4) (some (.int .i64 1)) none none).run Tryz.prog w = .ok (.slice (subE (some ⟨gb, offb, none⟩) 1 c4) zs.length (c4 - 1)) w := fun w => by
                  have := run_subEl (P := Tryz.prog) (w := w) (t := 30) (some ⟨gb, offb, none⟩) (zs.length + 1) c4 un_exps (sz_exp w) .i64 1 (by omega) (by omega)
                  rw [this]; rfl
                clear hV h3 h4 h5 hb hbs
                clear x0 y0
                go_wp2_with (at_builtin; refine wpList_append_grew _ rfl _ _ _ _ rfl W.heap.size 25 i0 _ 7 72 Tryz.underlying30 HI.out.1 HI.out.2.1 HI.out.2.2.1 HI.out.2.2.2 rfl _ os.length (expCells os) rfl (ownsRow_below HV.out.2.2.1 ((Below.refl _ _).alloc (Nat.le_refl _) _)) _ 1 y.cells rfl (Src.laid _ Tryz.underlying30 y.cells 1 rfl (by simp [Exp.cells, Value.oneCell']) (0, 0) (by simp)) ?c3 ?c4 ?c5 ?_)
                case c3 => exact Nat.le_trans (show os.length + 1 ≤ 20000 by omega) (by decide)
                case c4 => omega
                case c5 => exact Nat.le_trans hbs2 (by simp)
                intro v1 W1 hl1 hg1
                have hg1 : Grew V W1 _ v1 := Grew.under ((Below.refl _ _).alloc (Nat.le_refl _) _) hg1
                obtain ⟨vp, vc, hv1⟩ := ownsRow_form hl1
                subst hv1
                have H1 := hid (And.intro hl1 hg1)
                clear hl1 hg1 y0' y1' y2' y3' y4' y5' y6'
                go_wp2
                go_roundw
                case rel => exact MergeR.step (x := y) HV.out.1 HV.out.2.1 HV.out.2.2.1 HH.out.2.2.2.1 HH.out.2.2.2.2.1 HV.out.2.2.2 H1.out.2 (by rw [expCells_snoc, List.length_append]; exact H1.out.1) (fun V h => h) (fun V h => by have := h.drop (k := 1) (by omega); exact this) (fun k hk => hk) (fun k hk => subE_blk (n := zs.length + 1) (by omega) hk) (by rw [← HH.out.2.2.2.2.2.2.1, List.append_assoc]; simp [List.merge, HD.out]) (by simp; omega)
                case measure => simp [slLen]
end Go.Proofs.YthhjdkcnkdffcaaGreat
