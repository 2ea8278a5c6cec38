/- The reference's bytes of a job. -/
import Derived.Test.YtfkpbgookilhjaaGreatDoorZScJ
import Derived.Test.YtfkpbgookilhjaaGreatDoorZScT
import Derived.Deep.RegionWith
import Derived.Deep.RegionHeld3
namespace Go.Proofs.YtfkpbgookilhjaaGreatDoor
set_option linter.unusedSimpArgs false
set_option linter.unusedVariables false
open Go.RowKit

theorem wpList_full {P : Program} {t e : TypeId} {i : TypeInfo} (R : U8Row P t e i) (w : World) {ops : Array Oper} {rest : List Oper} {o : Oper} {a : Act} {Q : Exit → Act → World → Prop} (hgd : o.guard = none) (s y : Operand) (tx : TypeId)
    (ho : o.op = .call { callee := .builtin .append, args := #[s, y], argTypes := #[t, tx] }) (g : Nat) (xs : List UInt8) (n : Nat) (hn : xs.length = n) (hsv : a.eval s = .slice (some ⟨g, 0, none⟩) n n)
    (holds : ∀ j u, (u8s xs)[j]? = some u → w.cell? ⟨g, j, none⟩ = some u) (x : Value) (ys : List UInt8) (hx : a.eval y = x) (hs : Src P 1 tx x ys.length (u8s ys) w) (hpos : 0 < ys.length)
    (hlen : xs.length + ys.length ≤ 140737488355328)
    (h : ∀ v' w', OB w' w.heap.size e v' (xs ++ ys) → Below w.heap.size w w' → wpList P ops Q rest (a.put o.dst v') w') : wpList P ops Q (o :: rest) a w := by
  refine wpList_plain hgd fun K hK => ?_
  subst hn
  have ea : ∀ j, (⟨g, 0, none⟩ : Addr).add j = ⟨g, j, none⟩ := fun j => by unfold Addr.add; split <;> simp_all
  obtain ⟨v', w', hr, h2, h3⟩ := run_append_full w t tx o.type e i _ 1 1 R.un R.hi R.z R.size R.bytes rfl g xs.length (u8s xs) (by simp [u8s]) (fun j u hu => by rw [ea]; exact holds j u hu) x ys.length (u8s ys) hs hpos (Nat.le_trans hlen (by decide)) (by omega)
  unfold Oper.wp execOp
  simp only [ho, resolve, invoke, builtin, Sem.run_bind, Sem.run_pure, Result.andThen_ok, List.map_toArray, List.map_cons, List.map_nil, hsv, hx, hr]
  exact hK _ _ (h v' w' (by unfold OB; rw [List.length_append, u8s_app]; exact h2) h3)

/-- A byte of a row of the call's own is set. -/
theorem OB.setB {w : World} {B : Nat} {e : TypeId} {g cap : Nat} {l : List UInt8} (h : OB w B e (.slice (some ⟨g, 0, none⟩) l.length cap) l) (i : Nat) (y : UInt8) :
    OB (w.setCell ⟨g, i, none⟩ (.int .u8 (y.toNat : Int))) B e (.slice (some ⟨g, 0, none⟩) l.length cap) (l.set i y) := by
  rcases h.2 with ⟨h0, -⟩ | ⟨g', cap', cur, he, hbg, hg, hnc, hcm, hcs, htake⟩
  · cases h0
  · cases he
    have hr := heap_setCell_same w g i cur e (.int .u8 (y.toNat : Int)) hg
    refine ⟨by simp [u8s], .inr ⟨g, cap, _, by rw [List.length_set], hbg, hr, by rw [List.length_set]; exact hnc, hcm, by simpa using hcs, ?_⟩⟩
    have e1 : (u8s (l.set i y)) = (u8s l).set i (.int .u8 (y.toNat : Int)) := by simp [u8s, List.map_set]
    rw [e1, ← htake]
    simp only [List.length_set, Array.toList_setIfInBounds, List.take_set]

/-- It lies in a block, if it has anything. -/
theorem OB.some {w : World} {B : Nat} {e : TypeId} {v : Value} {l : List UInt8} (h : OB w B e v l) (hl : 0 < l.length) :
    ∃ g cap, v = .slice (some ⟨g, 0, none⟩) l.length cap ∧ (∀ i u, (u8s l)[i]? = some u → w.cell? ⟨g, i, none⟩ = some u) ∧ ∀ i, w.frozen? ⟨g, i, none⟩ = false := by
  rcases h.2 with ⟨-, h0⟩ | ⟨g, cap, cur, rfl, hbg, hg, hnc, hcm, hcs, htake⟩
  · omega
  · refine ⟨g, cap, rfl, fun i u hu => ?_, fun i => frozen_of_row w g i _ _ hg⟩
    have h2 := World.ownsRow.cells h (g := g) rfl i u hu
    have ea : (⟨g, 0, none⟩ : Addr).add i = ⟨g, i, none⟩ := by unfold Addr.add; split <;> simp_all
    rwa [ea] at h2

/-- What stands while a job is laid by the reference: the bytes, the job in b. -/
structure RIn (w1 W : World) (b : Nat) (j : JobV) (v : Value) (ys : List UInt8) : Prop where
  own : OB W w1.heap.size 5 v ys
  bel : Below w1.heap.size w1 W
  box : JobBox W b j
theorem RIn.next {w1 W W' : World} {b : Nat} {j : JobV} {v v' : Value} {ys zs : List UInt8} (h : RIn w1 W b j v ys) (hb : b < w1.heap.size) (ho : OB W' w1.heap.size 5 v' zs) (hg : Grew W W' v v') : RIn w1 W' b j v' zs :=
  have hbb := hg.below h.bel.size h.own.high
  ⟨ho, h.bel.trans hbb, (hbb.block b hb).trans h.box⟩
theorem RIn.drew {w1 W : World} {b : Nat} {j : JobV} {v : Value} {ys : List UInt8} (h : RIn w1 W b j v ys) : RIn w1 W.drew b j v ys := ⟨h.own, ⟨h.bel.os, h.bel.tape, h.bel.output, h.bel.size, h.bel.block⟩, h.box⟩

set_option maxHeartbeats 4000000 in
set_option maxRecDepth 4000 in
theorem rf_bytes (w : World) (j : JobV) (h : JobAt w j) (hm : mayJ j.m = true) : Calls Tryz.prog 12 #[.agg j.cells] w fun e w' =>
    ∃ v, e = .returned v ∧ OB w' w.heap.size 5 v j.m.enc ∧ Below w.heap.size w w' := by
  obtain ⟨i, R⟩ := u8rowS
  obtain ⟨w1, hw1⟩ : ∃ w1, w1 = w.alloc (.cells j.cells 27) := ⟨_, rfl⟩
  have hb1 : Below w.heap.size w w1 := by rw [hw1]; exact (Below.refl _ _).alloc (Nat.le_refl _) _
  have hx1 : JobBox w1 w.heap.size j := by rw [hw1]; exact JobBox.new w j
  have hs1 : w.heap.size < w1.heap.size := by rw [hw1]; simp
  have M := (mayJ_iff _).1 hm
  have har : j.arch = 1 ∨ j.arch = 2 := M.arch
  obtain ⟨a, ha, hwa⟩ : ∃ a : Nat, a = j.arch.toNat ∧ IntKind.u8.wrap j.arch = ((UInt8.ofNat (a % 256)).toNat : Int) := by
    refine ⟨j.arch.toNat, rfl, ?_⟩
    rcases har with h | h <;> rw [h] <;> decide
  obtain ⟨ya, hya⟩ : ∃ y, y = UInt8.ofNat (a % 256) := ⟨_, rfl⟩
  rw [← hya] at hwa
  have hcv := conv_magic w1
  have H1 := hid (And.intro hb1 (And.intro (h.below hb1) (And.intro M (And.intro ha (And.intro hya (And.intro hw1.symm hx1))))))
  have HR := hid R
  obtain ⟨x0, x1, x2, x3, x4, x5⟩ := hx1.at
  clear hb1 h hm M R ha hya har hw1 hx1
  show Calls Tryz.prog 12 #[.agg #[.slice j.fp j.fs.length j.fc, .string (mkS j.main), .slice j.ip j.ins.length j.ic, .int .i64 j.arch, .int .u64 (j.base : Int), .bool j.flat]] w _
  go_enter Tryz.func12, Tryz.ntmps12
  go_upto_region 1 with fail
  rw [show w.alloc (.cells #[.slice j.fp j.fs.length j.fc, .string (mkS j.main), .slice j.ip j.ins.length j.ic, .int .i64 j.arch, .int .u64 (j.base : Int), .bool j.flat] 27) = w1 from H1.out.2.2.2.2.2.1]
  have e1 : (w1.alloc (.cells #[.int .u8 67, .int .u8 76, .int .u8 86, .int .u8 83] 5 (4, 5))).heap.size = w1.heap.size + 1 := by simp
  have bA : Below w1.heap.size w1 (w1.alloc (.cells #[.int .u8 67, .int .u8 76, .int .u8 86, .int .u8 83] 5 (4, 5))) := (Below.refl _ _).alloc (Nat.le_refl _) _
  have rA := heap_alloc_new w1 (.cells (u8s magicB).toArray 5 (4, 5))
  have x3' : (w1.alloc (.cells #[.int .u8 67, .int .u8 76, .int .u8 86, .int .u8 83] 5 (4, 5))).cell? ⟨w.heap.size, 3, none⟩ = some (.int .i64 j.arch) := below_cell' bA hs1 x3
  have HA := hid (And.intro rA (And.intro bA e1))
  clear e1 bA rA
  go_wp2_with (at_builtin; refine wpList_full HR.out _ rfl _ _ _ rfl w1.heap.size magicB 4 rfl rfl ?hc _ [ya, 0] rfl (Src.laid _ un_bsS (u8s [ya, 0]) 2 rfl (by intro u hu; simp [u8s] at hu; rcases hu with rfl | rfl <;> rfl) (0, 0) HA.out.2.2) (by simp) (by simp [magicB]) ?_)
  case hc =>
    intro k u hu
    have hk : k < 4 := (List.getElem?_eq_some_iff.1 hu).1
    have bB : Below (w1.alloc (.cells #[.int .u8 67, .int .u8 76, .int .u8 86, .int .u8 83] 5 (4, 5))).heap.size (w1.alloc (.cells #[.int .u8 67, .int .u8 76, .int .u8 86, .int .u8 83] 5 (4, 5))) ((w1.alloc (.cells #[.int .u8 67, .int .u8 76, .int .u8 86, .int .u8 83] 5 (4, 5))).alloc (.cells (u8s [ya, 0]).toArray 5)) := (Below.refl _ _).alloc (Nat.le_refl _) _
    exact below_cell' bB (by have := HA.out.2.2; simp) (magic_cells rfl HA.out.1 k u hu)
  intro v2 W2 hown2 hb2
  have hA := HA.out
  have hi2 : RIn w1 W2 w.heap.size j v2 (magicB ++ [ya, 0]) := by
    have e2 : ((w1.alloc (.cells #[.int .u8 67, .int .u8 76, .int .u8 86, .int .u8 83] 5 (4, 5))).alloc (.cells (u8s [ya, 0]).toArray 5)).heap.size = w1.heap.size + 1 + 1 := by rw [World.size_alloc, hA.2.2]
    have e4 : w1.heap.size ≤ w1.heap.size + 1 + 1 := by omega
    have bB : Below (w1.alloc (.cells #[.int .u8 67, .int .u8 76, .int .u8 86, .int .u8 83] 5 (4, 5))).heap.size (w1.alloc (.cells #[.int .u8 67, .int .u8 76, .int .u8 86, .int .u8 83] 5 (4, 5))) ((w1.alloc (.cells #[.int .u8 67, .int .u8 76, .int .u8 86, .int .u8 83] 5 (4, 5))).alloc (.cells (u8s [ya, 0]).toArray 5)) := (Below.refl _ _).alloc (Nat.le_refl _) _
    have bl : Below w1.heap.size w1 W2 := hA.2.1.trans ((bB.mono (by omega)).trans (hb2.mono e4))
    exact ⟨hown2.base e4, bl, (bl.block _ hs1).trans H1.out.2.2.2.2.2.2⟩
  clear hown2 hb2 hA x0 x1 x2 x3 x4 x5 x3' hcv hwa
  obtain ⟨g, cap, hv2, hcell, hfz⟩ := OB.some hi2.own (by simp [magicB])
  have hv2 : v2 = .slice (some ⟨g, 0, none⟩) 6 cap := hv2
  subst hv2
  obtain ⟨x0, x1, x2, x3, x4, x5⟩ := hi2.box.at
  have c5 : W2.cell? ⟨g, 5, none⟩ = some (.int .u8 0) := hcell 5 _ rfl
  have f5 := hfz 5
  obtain ⟨fl, hfl⟩ : ∃ fl, fl = flatN j.flat := ⟨_, rfl⟩
  have hset : ∀ y, (magicB ++ [ya, 0]).set 5 y = magicB ++ [ya, y] := fun y => rfl
  have Hi2 := hid (And.intro hi2 (And.intro hfl hset))
  clear hi2 hcell hfz hfl hset
  go_upto_region 2 with fail
  have HJ := hid (enc_bounds H1.out.2.1 H1.out.2.2.1 (Below.refl w1.heap.size w1) a fl H1.out.2.2.2.1 Hi2.out.2.1)
  have hmain : j.main.length ≤ 255 := H1.out.2.2.1.main
  have hinsl : j.ins.length ≤ 64 := H1.out.2.2.1.insert
  have hfsl : j.fs.length ≤ 64 := by have := H1.out.2.2.1.files; simpa [JobV.m] using this
  have hwi : IntKind.u64.wrap (j.ins.length : Int) = j.ins.length := IntWalk.u64_in _ (by omega)
  have hwf : IntKind.u64.wrap (j.fs.length : Int) = j.fs.length := IntWalk.u64_in _ (by omega)
  have hi : ∃ W3, (if j.flat then W2.setCell ⟨g, 5, none⟩ (.int .u8 1) else W2) = W3 ∧ RIn w1 W3 w.heap.size j (.slice (some ⟨g, 0, none⟩) 6 cap) (magicB ++ lowB a 1 ++ lowB fl 1) := by
    have hi := Hi2.out.1
    have hgr : W2.grownBy (W2.setCell ⟨g, 5, none⟩ (.int .u8 1)) (some g) := grownBy_setB _ _ _ _
    have hgB : w1.heap.size ≤ g := hi.own.high g rfl
    have hsb : OB (W2.setCell ⟨g, 5, none⟩ (.int .u8 1)) w1.heap.size 5 (.slice (some ⟨g, 0, none⟩) 6 cap) (magicB ++ [ya, 1]) := OB.setB (l := magicB ++ [ya, 0]) (cap := cap) hi.own 5 1
    rcases Bool.eq_false_or_eq_true j.flat with hjf | hjf
    · have hy : magicB ++ [ya, (1 : UInt8)] = magicB ++ lowB a 1 ++ lowB fl 1 := by rw [Hi2.out.2.1, hjf, H1.out.2.2.2.2.1]; rfl
      rw [hjf, ← hy]
      exact ⟨_, rfl, hsb, Below.put hi.bel (Nat.le_refl _) hgB hgr, (hgr.block _ hi.box.lt (fun e => by have := Option.some.inj e; omega)).trans hi.box⟩
    · have hy : magicB ++ [ya, (0 : UInt8)] = magicB ++ lowB a 1 ++ lowB fl 1 := by rw [Hi2.out.2.1, hjf, H1.out.2.2.2.2.1]; rfl
      rw [hjf, ← hy]
      exact ⟨_, rfl, hi⟩
  obtain ⟨W3, hW3, hi⟩ := hi
  have Hp := hid (And.intro hi hW3)
  clear hi hW3
  have hsp : (j.flat = true ∧ W2.setCell ⟨g, 5, none⟩ (.int .u8 1) = W3) ∨ (j.flat = false ∧ W2 = W3) := by
    have := Hp.out.2
    rcases Bool.eq_false_or_eq_true j.flat with hjf | hjf
    · rw [hjf] at this; exact .inl ⟨hjf, this⟩
    · rw [hjf] at this; exact .inr ⟨hjf, this⟩
  rcases hsp with ⟨hjf, hW3⟩ | ⟨hjf, hW3⟩
  all_goals
    have HW3 := hid hW3
    rw [hjf] at x5
    clear hW3 hjf
    go_upto_region 4 with fail
    rw [HW3.out]
    clear x0 x1 x2 x3 x4 x5 c5 f5
    go_cut [3] (fun v wx => RIn w1 wx w.heap.size j v (magicB ++ lowB a 1 ++ lowB fl 1 ++ lowB j.base 8 ++ nmB j.main ++ lowB j.ins.length 2))
    case first =>
      have hi := Hp.out.1.drew
      go_region_held3 (fun W => W.cell? ⟨w.heap.size, 4, none⟩ = some (.int .u64 (j.base : Int)) ∧ W.cell? ⟨w.heap.size, 1, none⟩ = some (.string (mkS j.main)) ∧ W.cell? ⟨w.heap.size, 2, none⟩ = some (.slice j.ip j.ins.length j.ic)) (exact ⟨hi.box.at.2.2.2.2.1, hi.box.at.2.1, hi.box.at.2.2.1⟩)
        (first
          | (go_at_call 43; have hq := rf_low _ w1.heap.size _ _ j.base 8 8 rfl (by omega) H1.out.2.1.base hi.own (by simp [magicB, lowB_length]) hi.bel.size; (with_reducible refine hq.mono ?_); clear hq; rintro e w4 ⟨v4, rfl, ho4, hg4⟩; have hi := hi.next hs1 ho4 hg4; clear ho4 hg4)
          | (go_at_call 44; have hq := rf_name _ w1.heap.size _ _ j.main hi.own (by simp [magicB, lowB_length]; omega) hi.bel.size; (with_reducible refine hq.mono ?_); clear hq; rintro e w5 ⟨v5, rfl, ho5, hg5⟩; have hi := hi.next hs1 ho5 hg5; clear ho5 hg5)
          | (go_at_call 43; have hq := rf_low _ w1.heap.size _ _ j.ins.length 2 2 rfl (by omega) (by omega) hi.own (by simp [magicB, lowB_length, nmB_length]; omega) hi.bel.size; (with_reducible refine hq.mono ?_); clear hq; rintro e w6 ⟨v6, rfl, ho6, hg6⟩; have hi := hi.next hs1 ho6 hg6; clear ho6 hg6)
          | fail "no call")
      all_goals
        have hi := hid hi
        go_wp2_with fail
        go_meet
        exact hi.out
    case rest =>
      obtain ⟨X0, hX0⟩ : ∃ X0, X0 = magicB ++ lowB a 1 ++ lowB fl 1 ++ lowB j.base 8 ++ nmB j.main ++ lowB j.ins.length 2 := ⟨_, rfl⟩
      have hX0l : X0.length + (j.ins.flatMap nmB).length ≤ 140737488355328 := by
        have := HJ.out.2.1; rw [hX0, List.length_append, lowB_length]; omega
      obtain ⟨X1, hX1⟩ : ∃ X1, X1 = X0 ++ j.ins.flatMap nmB ++ lowB j.fs.length 2 := ⟨_, rfl⟩
      have hX1l : X1.length + (j.fs.flatMap encV).length ≤ 140737488355328 := by
        have := HJ.out.2.2.2.2.2.1; rw [hX1, hX0, List.length_append, lowB_length]; omega
      have hX2 : X1 ++ j.fs.flatMap encV = j.m.enc := by rw [hX1, hX0, HJ.out.2.2.2.2.2.2]
      have hi := hcut
      rw [← hX0] at hi
      have HX := hid (And.intro hX1 (And.intro hX2 (And.intro hX0l hX1l)))
      clear hcut hX0 hX1 hX2 hX0l hX1l
      have Hc := hid hi
      clear hi
      go_wp2_with fail
      go_loopw [3, 4] (fun v t wr => ∃ k : Nat, k ≤ j.ins.length ∧ t = .int .i64 (k : Int) ∧ RIn w1 wr w.heap.size j v (X0 ++ (j.ins.take k).flatMap nmB)) (fun _ t _ => j.ins.length - (intOf t).toNat)
      case atStart => exact ⟨0, Nat.zero_le _, rfl, by simpa using Hc.out⟩
      case round =>
        obtain ⟨k, hk, rfl, hi⟩ := hrel
        obtain ⟨x0, x1, x2, x3, x4, x5⟩ := hi.box.at
        by_cases hlt : k < j.ins.length
        · obtain ⟨s, hs⟩ : ∃ s, j.ins[k]? = some s := ⟨_, List.getElem?_eq_getElem hlt⟩
          obtain ⟨g2, off, hip, y0⟩ := StrsAt.cell (RowsAt.below H1.out.2.1.ins hi.bel) hs
          rw [hip] at x2
          have e1 := flat_snoc nmB hs
          have e2 := flat_take_le nmB j.ins (k + 1)
          rw [e1, List.length_append, nmB_length] at e2
          have hln : (X0 ++ (j.ins.take k).flatMap nmB).length + 2 + s.length ≤ 140737488355328 := by
            have := HX.out.2.2.1; rw [List.length_append]; omega
          have Hs := hid (And.intro hi (And.intro e1 hln))
          clear hi hs hip e1 e2 hln
          go_wp2_with fail
          refine (rf_name _ w1.heap.size _ _ s Hs.out.1.own Hs.out.2.2 Hs.out.1.bel.size).mono ?_
          rintro e w5 ⟨v5, rfl, ho5, hg5⟩
          have H5 := hid (Hs.out.1.next hs1 ho5 hg5)
          clear ho5 hg5 x0 x1 x2 x3 x4 x5 y0
          go_wp2_with fail
          refine ⟨⟨k + 1, by omega, by go_num, ?_⟩, by simp [intOf]; omega⟩
          rw [Hs.out.2.1, ← List.append_assoc]
          exact H5.out
        · rw [flat_all nmB (by omega)] at hi
          have Hi := hid hi
          clear hi
          go_wp2_with fail
          refine (rf_low _ w1.heap.size _ _ j.fs.length 2 2 rfl (by omega) (by omega) Hi.out.own (by have := HX.out.2.2.2; have h2 := congrArg List.length HX.out.1; rw [List.length_append, lowB_length] at h2; omega) Hi.out.bel.size).mono ?_
          rintro e w6 ⟨v6, rfl, ho6, hg6⟩
          have hi6 := Hi.out.next hs1 ho6 hg6
          rw [← HX.out.1] at hi6
          have H6 := hid hi6
          clear ho6 hg6 hi6 x0 x1 x2 x3 x4 x5
          go_wp2_with fail
          go_loopw [3, 5] (fun v t wr => ∃ k : Nat, k ≤ j.fs.length ∧ t = .int .i64 (k : Int) ∧ RIn w1 wr w.heap.size j v (X1 ++ (j.fs.take k).flatMap encV)) (fun _ t _ => j.fs.length - (intOf t).toNat)
          case atStart => exact ⟨0, Nat.zero_le _, rfl, by simpa using H6.out⟩
          case round =>
            obtain ⟨q, hq, rfl, hi⟩ := hrel
            obtain ⟨x0, x1, x2, x3, x4, x5⟩ := hi.box.at
            by_cases hlt2 : q < j.fs.length
            · obtain ⟨f, hs⟩ : ∃ s, j.fs[q]? = some s := ⟨_, List.getElem?_eq_getElem hlt2⟩
              obtain ⟨g3, off, hip, y0, y1⟩ := FilesAt.cell H1.out.2.1.files hs
              have gl : g3 < w1.heap.size := by have := World.block_lt_of_cell? w1 _ y0; simpa using this
              have hmem := List.mem_of_getElem? hs
              have e1 := flat_snoc encV hs
              have e2 := flat_take_le encV j.fs (q + 1)
              have hxf : BS w1 (.slice f.p f.n f.cap) f.bytes := HJ.out.2.2.1 f hmem
              have hsf := HJ.out.2.2.2.1 f hmem
              obtain ⟨nm, pf, nf, cf, bs⟩ := f
              obtain rfl : bs.length = nf := hxf.len
              dsimp only at y0 y1 hxf hsf
              have e3 : encV ⟨nm, pf, bs.length, cf, bs⟩ = nmB nm ++ blB bs := rfl
              rw [e1, e3, List.length_append, List.length_append, nmB_length, blB_length] at e2
              have hln : (X1 ++ (j.fs.take q).flatMap encV).length + (2 + nm.length + (4 + bs.length)) ≤ 140737488355328 := by
                have := HX.out.2.2.2; rw [List.length_append]; omega
              rw [hip] at x0
              have hkp : ∀ W v ys, RIn w1 W w.heap.size j v ys → W.cell? ⟨w.heap.size, 0, none⟩ = some (.slice (some ⟨g3, off, none⟩) j.fs.length j.fc) ∧ W.cell? ⟨g3, off + q * 2, none⟩ = some (.string (mkS nm)) ∧ W.cell? ⟨g3, off + q * 2 + 1, none⟩ = some (.slice pf bs.length cf) :=
                fun W v ys h => ⟨by have := h.box.at.1; rwa [hip] at this, below_cell' h.bel gl y0, below_cell' h.bel gl y1⟩
              have HK := hid hkp
              have Hs := hid (And.intro hi (And.intro (e1.trans (by rw [e3])) (And.intro hln (And.intro hxf (And.intro x0 (And.intro y0 y1))))))
              clear hi hs hip e1 e2 hln e3 hmem hxf y0 y1 x1 x2 x3 x4 x5 hkp gl
              have hwq : IntKind.i64.wrap (q : Int) = (q : Int) := IntWalk.i64_in _ (by omega)
              have hq1 : decide ((q : Int) < (j.fs.length : Int)) = true := decide_eq_true (by omega)
              go_upto_region 13 with fail
              clear x0
              have hi := Hs.out.1.drew
              go_region_held3 (fun W => W.cell? ⟨w.heap.size, 0, none⟩ = some (.slice (some ⟨g3, off, none⟩) j.fs.length j.fc) ∧ W.cell? ⟨g3, off + q * 2, none⟩ = some (.string (mkS nm)) ∧ W.cell? ⟨g3, off + q * 2 + 1, none⟩ = some (.slice pf bs.length cf)) (exact HK.out _ _ _ hi)
                (first
                  | (go_at_call 44; have hq := rf_name _ w1.heap.size _ _ nm hi.own (by have := Hs.out.2.2.1; omega) hi.bel.size; (with_reducible refine hq.mono ?_); clear hq; rintro e w7 ⟨v7, rfl, ho7, hg7⟩; have hi := hi.next hs1 ho7 hg7; clear ho7 hg7)
                  | (go_at_call 45; have hq := rf_blob _ w1.heap.size _ _ bs pf cf (Hs.out.2.2.2.1.below hi.bel) (fun b hb => bs_lt Hs.out.2.2.2.1 hb) hi.own (by have := Hs.out.2.2.1; rw [List.length_append, nmB_length]; omega) hi.bel.size; (with_reducible refine hq.mono ?_); clear hq; rintro e w8 ⟨v8, rfl, ho8, hg8⟩; have hi := hi.next hs1 ho8 hg8; clear ho8 hg8)
                  | fail "no call")
              all_goals
                have hi := hid hi
                go_wp2_with fail
                refine ⟨⟨q + 1, by omega, by go_num, ?_⟩, by simp [intOf]; omega⟩
                rw [Hs.out.2.1, ← List.append_assoc, ← List.append_assoc]
                exact hi.out
            · rw [flat_all encV (by omega), HX.out.2.1] at hi
              have Hz := hid hi
              clear hi
              go_wp2_with fail
              go_ret
              exact ⟨_, rfl, Hz.out.own.base (Nat.le_of_lt hs1), H1.out.1.trans (Hz.out.bel.mono (Nat.le_of_lt hs1))⟩
end Go.Proofs.YtfkpbgookilhjaaGreatDoor
