/- The reference's ToldBytes of what is linked. -/
import Derived.Test.YtfkpbgookilhjaaGreatDoorZScTk
import Derived.Test.YtfkpbgookilhjaaGreatDoorZScTb
import Derived.Deep.RegionHeld
import Derived.Deep.RegionHeld3
namespace Go.Proofs.YtfkpbgookilhjaaGreatDoor
set_option linter.unusedSimpArgs false
set_option linter.unusedVariables false
open Go.RowKit

theorem row_cells {w : World} {g : Nat} {l : List UInt8} {C : Array Value} {t : TypeId} {fr : Nat × Nat} (hC : C = (u8s l).toArray) (h : w.heap[g]? = some (.cells C t fr)) : ∀ j u, (u8s l)[j]? = some u → w.cell? ⟨g, j, none⟩ = some u := by
  subst hC
  intro j u hu
  simp only [World.cell?, h]
  simpa using hu

theorem below_drewT {B : Nat} {w w' : World} (h : Below B w w') : Below B w w'.drew := ⟨h.os, h.tape, h.output, h.size, h.block⟩
theorem below_drewNT {B : Nat} {w w' : World} (h : Below B w w') (q : Nat) : Below B w (w'.drewN q) := ⟨h.os, h.tape, h.output, h.size, h.block⟩
/-- What stands while a told value is laid by the reference. -/
structure ULn (w1 W : World) (b : Nat) (t : ToldV) (v : Value) (ys : List UInt8) : Prop where
  own : OB W w1.heap.size 5 v ys
  bel : Below w1.heap.size w1 W
  box : ToldBox W b t.h
theorem ULn.next {w1 W W' : World} {b : Nat} {t : ToldV} {v v' : Value} {ys zs : List UInt8} (h : ULn w1 W b t v ys) (hb : b < w1.heap.size) (ho : OB W' w1.heap.size 5 v' zs) (hg : Grew W W' v v') : ULn w1 W' b t v' zs :=
  have hbb := hg.below h.bel.size h.own.high
  ⟨ho, h.bel.trans hbb, (hbb.block b hb).trans h.box⟩
theorem ULn.below {w1 W W' : World} {b : Nat} {t : ToldV} {v : Value} {ys : List UInt8} (h : ULn w1 W b t v ys) (hb : Below W.heap.size W W') : ULn w1 W' b t v ys := ⟨h.own.below hb, h.bel.trans (hb.mono h.bel.size), h.box.below hb⟩
theorem ULn.drew {w1 W : World} {b : Nat} {t : ToldV} {v : Value} {ys : List UInt8} (h : ULn w1 W b t v ys) : ULn w1 W.drew b t v ys := ⟨h.own, ⟨h.bel.os, h.bel.tape, h.bel.output, h.bel.size, h.bel.block⟩, h.box⟩

/-- .. with a copy of an element in K. -/
structure UCn (w1 W : World) (b K : Nat) (t : ToldV) (row : Obj) (v : Value) (ys : List UInt8) : Prop where
  l : ULn w1 W b t v ys
  kb : W.heap[K]? = some row
  kv : v.ownBlock ≠ some K
theorem UCn.next {w1 W W' : World} {b K : Nat} {t : ToldV} {row : Obj} {v v' : Value} {ys zs : List UInt8} (h : UCn w1 W b K t row v ys) (hb : b < w1.heap.size) (ho : OB W' w1.heap.size 5 v' zs) (hg : Grew W W' v v') : UCn w1 W' b K t row v' zs := by
  have hk := (Array.getElem?_eq_some_iff.1 h.kb).1
  refine ⟨h.l.next hb ho hg, (hg.block hk h.kv).trans h.kb, fun e => ?_⟩
  rcases hg.lies with h1 | ⟨j, h1, h2⟩
  · exact h.kv (h1.symm.trans e)
  · rw [h1] at e; cases e; omega
theorem UCn.below {w1 W W' : World} {b K : Nat} {t : ToldV} {row : Obj} {v : Value} {ys : List UInt8} (h : UCn w1 W b K t row v ys) (hb : Below W.heap.size W W') : UCn w1 W' b K t row v ys :=
  ⟨h.l.below hb, (hb.block _ (Array.getElem?_eq_some_iff.1 h.kb).1).trans h.kb, h.kv⟩
theorem UCn.new {w1 W : World} {b : Nat} {t : ToldV} {v : Value} {ys : List UInt8} (h : ULn w1 W b t v ys) (row : Obj) : UCn w1 (W.alloc row) b W.heap.size t row v ys :=
  ⟨h.below ((Below.refl _ _).alloc (Nat.le_refl _) _), heap_alloc_new W row, fun e => Nat.lt_irrefl _ (h.own.lt _ e)⟩
theorem UCn.drew {w1 W : World} {b K : Nat} {t : ToldV} {row : Obj} {v : Value} {ys : List UInt8} (h : UCn w1 W b K t row v ys) : UCn w1 W.drew b K t row v ys := ⟨h.l.drew, h.kb, h.kv⟩
/-- A byte that is laid ahead. -/
theorem UCn.lit {w1 W : World} {b K : Nat} {t : ToldV} {row : Obj} {v : Value} {ys : List UInt8} (h : UCn w1 W b K t row v ys) (yb : UInt8) :
    UCn w1 (W.alloc (.cells #[.int .u8 (yb.toNat : Int)] 5)).drew b K t row v ys ∧ OB (W.alloc (.cells #[.int .u8 (yb.toNat : Int)] 5)).drew W.heap.size 5 (.slice (some ⟨W.heap.size, 0, none⟩) 1 1) [yb] ∧ Apart (.slice (some ⟨W.heap.size, 0, none⟩) 1 1) v :=
  ⟨(h.below ((Below.refl _ _).alloc (Nat.le_refl _) _)).drew, owns_drew (OB.laid W (e := 5) [yb] (by simp)), fun k hk e => by
    have h2 := h.l.own.lt _ e
    cases hk
    exact Nat.lt_irrefl _ h2⟩
theorem UCn.lit0 {w1 W : World} {b K : Nat} {t : ToldV} {row : Obj} {v : Value} {ys : List UInt8} (h : UCn w1 W b K t row v ys) (yb : UInt8) :
    UCn w1 (W.alloc (.cells #[.int .u8 (yb.toNat : Int)] 5)) b K t row v ys ∧ BS (W.alloc (.cells #[.int .u8 (yb.toNat : Int)] 5)) (.slice (some ⟨W.heap.size, 0, none⟩) 1 1) [yb] :=
  ⟨h.below ((Below.refl _ _).alloc (Nat.le_refl _) _), OB.bs (l := [yb]) (OB.laid W (e := 5) [yb] (by simp)) (by simp)⟩
theorem UCn.c3 {w1 W : World} {b K : Nat} {t : ToldV} {x0 x1 x2 : Value} {ty : TypeId} {fr : Nat × Nat} {v : Value} {ys : List UInt8} (h : UCn w1 W b K t (.cells #[x0, x1, x2] ty fr) v ys) : W.cell? ⟨K, 0, none⟩ = some x0 ∧ W.cell? ⟨K, 1, none⟩ = some x1 ∧ W.cell? ⟨K, 2, none⟩ = some x2 :=
  ⟨cell_of_row W K 0 _ _ _ h.kb, cell_of_row W K 1 _ _ _ h.kb, cell_of_row W K 2 _ _ _ h.kb⟩

set_option maxHeartbeats 4000000 in
set_option maxRecDepth 8000 in
theorem rf_told_linked (w : World) (t : ToldV) (h : ToldAt w t) (her : t.er = 0) (hm : mayLV t = true) : Calls Tryz.prog 19 #[.agg t.h.cells] w fun e w' => ∃ v, e = .returned v ∧ OB w' w.heap.size 5 v t.m.enc ∧ Below w.heap.size w w' := by
  obtain ⟨i, R⟩ := u8rowS
  have hn : (t.er != 0) = false := by rw [her]; rfl
  obtain ⟨w1, hw1⟩ : ∃ w1, w1 = w.alloc (.cells t.h.cells 49) := ⟨_, rfl⟩
  have hb1 : Below w.heap.size w w1 := by rw [hw1]; exact (Below.refl _ _).alloc (Nat.le_refl _) _
  have hx1 : ToldBox w1 w.heap.size t.h := by rw [hw1]; exact ToldBox.new w t.h
  have hs1 : w.heap.size < w1.heap.size := by rw [hw1]; simp
  have hat : ToldAt w1 t := h.below hb1
  obtain ⟨-, -, hsl, hml, hnl, hall, hdeps, hmem, hini, henc⟩ := told_bounds hat her hm
  obtain ⟨X0, hX0⟩ : ∃ X0, X0 = [76] ++ lowB t.seats.length 2 := ⟨_, rfl⟩
  obtain ⟨X1, hX1⟩ : ∃ X1, X1 = X0 ++ t.seats.flatMap encS ++ lowB t.mem.length 4 := ⟨_, rfl⟩
  obtain ⟨X2, hX2⟩ : ∃ X2, X2 = X1 ++ t.mem.flatMap encP ++ lowB t.inits.length 4 := ⟨_, rfl⟩
  have henc : t.m.enc = X2 ++ t.inits.flatMap InitM.enc ++ lowB t.entry 8 := by rw [henc, hX2, hX1, hX0]
  rw [henc]
  have hl0 : X0.length = 3 := by rw [hX0, List.length_append, lowB_length]; rfl
  have hl1 : X1.length = 7 + (t.seats.flatMap encS).length := by rw [hX1, List.length_append, List.length_append, lowB_length, hl0]; omega
  have hl2 : X2.length = 11 + (t.seats.flatMap encS).length + (t.mem.flatMap encP).length := by rw [hX2, List.length_append, List.length_append, lowB_length, hl1]; omega
  have hcv := conv_L w1
  have hwi : IntKind.u64.wrap (t.seats.length : Int) = t.seats.length := IntWalk.u64_in _ (by omega)
  have hwm : IntKind.u64.wrap (t.mem.length : Int) = t.mem.length := IntWalk.u64_in _ (by omega)
  have hwn : IntKind.u64.wrap (t.inits.length : Int) = t.inits.length := IntWalk.u64_in _ (by omega)
  have bA : Below w1.heap.size w1 (w1.alloc (.cells #[.int .u8 76] 5 (1, 2))) := (Below.refl _ _).alloc (Nat.le_refl _) _
  have rA := heap_alloc_new w1 (.cells (u8s [76]).toArray 5 (1, 2))
  have x3' : (w1.alloc (.cells #[.int .u8 76] 5 (1, 2))).cell? ⟨w.heap.size, 3, none⟩ = some (.slice t.sp t.seats.length t.sc) := below_cell' bA hs1 hx1.atV.2.2.2.1
  have hLf := rf_low_full (w1.alloc (.cells #[.int .u8 76] 5 (1, 2))) w1.heap.size [76] 1 t.seats.length 2 2 rfl (by omega) (by omega) (by omega) rfl (by omega) (row_cells (l := [76]) rfl rA) (by simp)
  have hL := hid (And.intro hLf (And.intro bA hx1))
  have HS := hid (And.intro hX0 (And.intro hX1 (And.intro hX2 (And.intro hl0 (And.intro hl1 (And.intro hl2 hall))))))
  have HE := hid (And.intro hat (And.intro hdeps (And.intro hmem hini)))
  have HW := hid (And.intro hb1 hw1.symm)
  have HR := hid R
  obtain ⟨x0, x1, x2, x3, x4, x5, x6⟩ := hx1.atV
  clear h hm her hb1 hw1 hx1 hat hdeps hmem hini henc hX0 hX1 hX2 hl0 hl1 hl2 hall bA rA hLf R
  show Calls Tryz.prog 19 #[.agg #[.int .i64 t.ph, .string (mkS t.img), .int .i64 t.er, .slice t.sp t.seats.length t.sc, .slice t.mp t.mem.length t.mc, .slice t.np t.inits.length t.nc, .int .u64 (t.entry : Int)]] w _
  go_enter Tryz.func19, Tryz.ntmps19
  go_upto_region 1 with fail
  rw [show w.alloc (.cells #[.int .i64 t.ph, .string (mkS t.img), .int .i64 t.er, .slice t.sp t.seats.length t.sc, .slice t.mp t.mem.length t.mc, .slice t.np t.inits.length t.nc, .int .u64 (t.entry : Int)] 49) = w1 from HW.out.2]
  go_wp2_with fail
  refine hL.out.1.mono ?_
  rintro e W2 ⟨v2, rfl, ho2, hb2⟩
  have hi2 : ULn w1 W2 w.heap.size t v2 X0 := by
    have hz : w1.heap.size ≤ (w1.alloc (.cells #[.int .u8 76] 5 (1, 2))).heap.size := by simp
    have bl := hL.out.2.1.trans (hb2.mono hz)
    rw [HS.out.1]
    exact ⟨ho2.base hz, bl, (bl.block _ hs1).trans hL.out.2.2⟩
  clear ho2 hb2 x0 x1 x2 x3 x4 x5 x6 x3' hcv
  have Hi2 := hid hi2
  clear hi2
  go_wp2_with fail
  go_loopw [3, 4] (fun v i wr => ∃ k : Nat, k ≤ t.seats.length ∧ i = .int .i64 (k : Int) ∧ ULn w1 wr w.heap.size t v (X0 ++ (t.seats.take k).flatMap encS)) (fun _ i _ => t.seats.length - (intOf i).toNat)
  case atStart => exact ⟨0, Nat.zero_le _, rfl, by simpa using Hi2.out⟩
  case round =>
    rename World => wo
    obtain ⟨k, hk, rfl, hi⟩ := hrel
    obtain ⟨x0, x1, x2, x3, x4, x5, x6⟩ := hi.box.atV
    by_cases hlt : k < t.seats.length
    · obtain ⟨x, hx⟩ : ∃ x, t.seats[k]? = some x := ⟨_, List.getElem?_eq_getElem hlt⟩
      obtain ⟨g, off, hip, y0, y1, y2⟩ := SeatsAt.cell (RowsAt.below HE.out.1.seats hi.bel) hx
      rw [hip] at x3
      obtain ⟨hdep, hsl8, hbad⟩ := HE.out.2.1 x (List.mem_of_getElem? hx)
      have e1 := flat_snoc encS hx
      have e2 := flat_take_le encS t.seats (k + 1)
      obtain ⟨pa, sl, dp, dc, ds⟩ := x
      dsimp only at y0 y1 y2 hdep hsl8
      obtain ⟨n1, n2, n3⟩ := not_badS hbad
      dsimp only at n1 n2 n3
      rw [encS_eq] at e1
      dsimp only at e1
      rw [e1] at e2
      simp only [List.length_append, nmB_length, lowB_length] at e2
      have hlen : (X0 ++ (t.seats.take k).flatMap encS).length + (2 + pa.length + 8 + 2 + (ds.flatMap encD).length) ≤ 140737488355328 := by
        have := HS.out.2.2.2.1; have := HS.out.2.2.2.2.2.2; rw [List.length_append]; omega
      obtain ⟨Y, hY⟩ : ∃ Y, Y = X0 ++ (t.seats.take k).flatMap encS := ⟨_, rfl⟩
      rw [← hY] at hlen hi
      have e3 : X0 ++ (t.seats.take (k + 1)).flatMap encS = Y ++ nmB pa ++ lowB sl 8 ++ lowB ds.length 2 ++ ds.flatMap encD := by
        rw [e1, hY]; simp only [List.append_assoc]
      have hwd : IntKind.u64.wrap (ds.length : Int) = ds.length := IntWalk.u64_in _ (by omega)
      have hc := UCn.new hi (.cells #[.string (mkS pa), .int .u64 (sl : Int), .slice dp ds.length dc] 90)
      have Hs := hid (And.intro hc (And.intro hlen (And.intro e3 (And.intro hdep n3))))
      clear hi hx hip hdep hbad e1 e2 hlen hY e3 n3 hc
      go_upto_region 8 with fail
      clear x0 x1 x2 x3 x4 x5 x6 y0 y1 y2
      have hi := Hs.out.1.drew
      go_region_held (fun W => W.cell? ⟨wo.heap.size, 0, none⟩ = some (.string (mkS pa)) ∧ W.cell? ⟨wo.heap.size, 1, none⟩ = some (.int .u64 (sl : Int)) ∧ W.cell? ⟨wo.heap.size, 2, none⟩ = some (.slice dp ds.length dc)) (exact hi.c3)
        (first
          | (go_at_call 44; have hq := rf_name _ w1.heap.size _ _ pa hi.l.own (by have := Hs.out.2.1; omega) hi.l.bel.size; (with_reducible refine hq.mono ?_); clear hq; rintro e w4 ⟨v4, rfl, ho4, hg4⟩; have hi := hi.next hs1 ho4 hg4; clear ho4 hg4)
          | (go_at_call 43; have hq := rf_low _ w1.heap.size _ _ sl 8 8 rfl (by omega) hsl8 hi.l.own (by have := Hs.out.2.1; simp only [List.length_append, nmB_length, lowB_length]; omega) hi.l.bel.size; (with_reducible refine hq.mono ?_); clear hq; rintro e w5 ⟨v5, rfl, ho5, hg5⟩; have hi := hi.next hs1 ho5 hg5; clear ho5 hg5)
          | (go_at_call 43; have hq := rf_low _ w1.heap.size _ _ ds.length 2 2 rfl (by omega) (by omega) hi.l.own (by have := Hs.out.2.1; simp only [List.length_append, nmB_length, lowB_length]; omega) hi.l.bel.size; (with_reducible refine hq.mono ?_); clear hq; rintro e w6 ⟨v6, rfl, ho6, hg6⟩; have hi := hi.next hs1 ho6 hg6; clear ho6 hg6)
          | fail "no call")
      all_goals
        have Hc := hid hi
        clear hi
        go_wp2_with fail
        go_loopw [3, 6] (fun v i wr => ∃ j : Nat, j ≤ ds.length ∧ i = .int .i64 (j : Int) ∧ UCn w1 wr w.heap.size wo.heap.size t (.cells #[.string (mkS pa), .int .u64 (sl : Int), .slice dp ds.length dc] 90 (0, 0)) v (Y ++ nmB pa ++ lowB sl 8 ++ lowB ds.length 2 ++ (ds.take j).flatMap encD)) (fun _ i _ => ds.length - (intOf i).toNat)
        case atStart => exact ⟨0, Nat.zero_le _, rfl, by simpa using Hc.out⟩
        case round =>
          obtain ⟨j, hj, rfl, hi⟩ := hrel
          obtain ⟨y0, y1, y2⟩ := hi.c3
          by_cases hjl : j < ds.length
          · obtain ⟨d, hd⟩ : ∃ d, ds[j]? = some d := ⟨_, List.getElem?_eq_getElem hjl⟩
            obtain ⟨gd, od, rfl, z0⟩ := IntsAt.cell (RowsAt.below Hs.out.2.2.2.1 hi.l.bel) hd
            have hwj : IntKind.i64.wrap (j : Int) = (j : Int) := IntWalk.i64_in _ (by omega)
            have hbd : badD d = false := by have := List.any_eq_false.1 Hs.out.2.2.2.2 d (List.mem_of_getElem? hd); simpa using this
            have hd1 : -1 ≤ d ∧ d ≤ 65534 := by unfold badD inB2 at hbd; simpa using hbd
            have hwa : IntKind.i64.wrap (d + 65536) = d + 65536 := IntWalk.i64_in _ (by omega)
            have hwb : IntKind.u64.wrap (d + 65536) = d + 65536 := IntWalk.u64_in _ (by omega)
            have hwc : (d + 65536) % 65536 = (two d : Int) := by unfold two; omega
            have hwc2 : (d + 65536).tmod 65536 = (two d : Int) := by rw [Int.tmod_eq_emod_of_nonneg (by omega)]; exact hwc
            have htw : two d < 2 ^ 64 := by unfold two; omega
            have e1 := flat_snoc encD hd
            have e2 := flat_take_le encD ds (j + 1)
            rw [e1, List.length_append, encD_length] at e2
            have hlen : (Y ++ nmB pa ++ lowB sl 8 ++ lowB ds.length 2 ++ (ds.take j).flatMap encD).length + 2 ≤ 140737488355328 := by
              have := Hs.out.2.1; simp only [List.length_append, nmB_length, lowB_length]; omega
            have Hj := hid (And.intro hi (And.intro e1 (And.intro hlen hd1)))
            clear hi hd hbd hd1 e1 e2 hlen
            go_wp2_with fail
            refine (rf_low _ w1.heap.size _ _ (two d) 2 2 rfl (by omega) htw Hj.out.1.l.own Hj.out.2.2.1 Hj.out.1.l.bel.size).mono ?_
            rintro e w7 ⟨v7, rfl, ho7, hg7⟩
            have H7 := hid (Hj.out.1.next hs1 ho7 hg7)
            clear ho7 hg7 y0 y1 y2 z0
            go_wp2_with fail
            refine ⟨⟨j + 1, by omega, by go_num, ?_⟩, by simp [intOf]; omega⟩
            rw [Hj.out.2.1, ← List.append_assoc]
            exact H7.out
          · rw [flat_all encD (by omega), ← Hs.out.2.2.1] at hi
            have Hj := hid hi
            clear hi
            go_wp2_with fail
            exact ⟨⟨k + 1, by omega, by go_num, Hj.out.l⟩, by simp [intOf]; omega⟩
    · rw [flat_all encS (by omega)] at hi
      have Hj := hid hi
      clear hi
      go_wp2_with fail
      refine (rf_low _ w1.heap.size _ _ t.mem.length 4 4 rfl (by omega) (by omega) Hj.out.own (by have := HS.out.2.2.2.1; have := HS.out.2.2.2.2.2.2; rw [List.length_append]; omega) Hj.out.bel.size).mono ?_
      rintro e w8 ⟨v8, rfl, ho8, hg8⟩
      have hi8 := Hj.out.next hs1 ho8 hg8
      rw [← HS.out.2.1] at hi8
      have H8 := hid hi8
      clear ho8 hg8 hi8 x0 x1 x2 x3 x4 x5 x6
      go_wp2_with fail
      go_loopw [3, 7] (fun v i wr => ∃ k : Nat, k ≤ t.mem.length ∧ i = .int .i64 (k : Int) ∧ ULn w1 wr w.heap.size t v (X1 ++ (t.mem.take k).flatMap encP)) (fun _ i _ => t.mem.length - (intOf i).toNat)
      case atStart => exact ⟨0, Nat.zero_le _, rfl, by simpa using H8.out⟩
      case round =>
        rename World => wm
        obtain ⟨q, hq, rfl, hi⟩ := hrel
        obtain ⟨x0, x1, x2, x3, x4, x5, x6⟩ := hi.box.atV
        by_cases hlt2 : q < t.mem.length
        · obtain ⟨x, hx⟩ : ∃ x, t.mem[q]? = some x := ⟨_, List.getElem?_eq_getElem hlt2⟩
          obtain ⟨g, off, hip, y0, y1, y2⟩ := PiecesAt.cell (RowsAt.below HE.out.1.mem hi.bel) hx
          rw [hip] at x4
          obtain ⟨hbs, hat8, hbad⟩ := HE.out.2.2.1 x (List.mem_of_getElem? hx)
          have e1 := flat_snoc encP hx
          have e2 := flat_take_le encP t.mem (q + 1)
          obtain ⟨aa, pr, pp, pn, pc, bs⟩ := x
          dsimp only at y0 y1 y2 hbs hat8
          obtain rfl : bs.length = pn := hbs.len
          obtain ⟨n1, n2, n3⟩ := not_badP hbad
          dsimp only at n1 n2 n3
          rw [encP_eq] at e1
          dsimp only at e1
          rw [e1] at e2
          simp only [List.length_append, blB_length, lowB_length] at e2
          have hlen : (X1 ++ (t.mem.take q).flatMap encP).length + (8 + 1 + (4 + bs.length)) ≤ 140737488355328 := by
            have := HS.out.2.2.2.2.1; have := HS.out.2.2.2.2.2.2; rw [List.length_append]; omega
          obtain ⟨Y, hY⟩ : ∃ Y, Y = X1 ++ (t.mem.take q).flatMap encP := ⟨_, rfl⟩
          rw [← hY] at hlen hi
          obtain ⟨yb, hyb⟩ : ∃ y, y = UInt8.ofNat (pr.toNat % 256) := ⟨_, rfl⟩
          have hwy : IntKind.u8.wrap pr = (yb.toNat : Int) := by rw [IntKind.wrap_u8, hyb]; simp; omega
          have hlb : lowB pr.toNat 1 = [yb] := by rw [hyb]; rfl
          have e3 : X1 ++ (t.mem.take (q + 1)).flatMap encP = Y ++ lowB aa 8 ++ [yb] ++ blB bs := by
            rw [e1, hY, hlb]; simp only [List.append_assoc]
          have hc := UCn.new hi (.cells #[.int .u64 (aa : Int), .int .i64 pr, .slice pp bs.length pc] 41)
          have Hs := hid (And.intro hc (And.intro hlen (And.intro e3 hbs)))
          clear hi hx hip hbad e1 e2 hlen hY e3 hc hbs hyb hlb n1 n2 n3
          go_upto_region 18 with fail
          clear x0 x1 x2 x3 x4 x5 x6 y0 y1 y2
          have hi := Hs.out.1
          go_region_held3 (fun W => W.cell? ⟨wm.heap.size, 0, none⟩ = some (.int .u64 (aa : Int)) ∧ W.cell? ⟨wm.heap.size, 1, none⟩ = some (.int .i64 pr) ∧ W.cell? ⟨wm.heap.size, 2, none⟩ = some (.slice pp bs.length pc)) (first | exact hi.c3 | exact (hi.below (by repeat (first | exact Below.refl _ _ | refine below_drewT ?_ | refine below_drewNT ?_ _ | refine Below.alloc ?_ (by simp) _))).c3)
            (first
              | (go_at_call 43; have hq := rf_low (wm.alloc (.cells #[.int .u64 (aa : Int), .int .i64 pr, .slice pp bs.length pc] 41)).drew w1.heap.size _ _ aa 8 8 rfl (by omega) hat8 hi.drew.l.own (by have := Hs.out.2.1; omega) hi.drew.l.bel.size; (with_reducible refine hq.mono ?_); clear hq; rintro e w5 ⟨v5, rfl, ho5, hg5⟩; have hi := hi.drew.next hs1 ho5 hg5; have hu := True.intro; clear ho5 hg5)
              | (go_at_call 43; obtain ⟨hi, hu, hap⟩ := hi.lit yb; simp only [World.size_alloc] at hu hap; have hq := rf_low _ w1.heap.size _ _ aa 8 8 rfl (by omega) hat8 hi.l.own (by have := Hs.out.2.1; omega) hi.l.bel.size; (with_reducible refine hq.mono ?_); clear hq; rintro e w5 ⟨v5, rfl, ho5, hg5⟩; have hu := hg5.own hu hap; have hi := hi.next hs1 ho5 hg5; clear ho5 hg5 hap)
              | (refine step_bytes HR.out _ rfl _ _ _ rfl w1.heap.size v5 (Y ++ lowB aa 8) rfl hi.l.own _ [yb] rfl (Src.ofBS un_bsS (OB.bs (l := [yb]) hu (by simp))) (by have := Hs.out.2.1; simp only [List.length_append, lowB_length, List.length_cons, List.length_nil]; omega) hi.l.bel.size ?_; intro v7 W7 ho7 hg7; obtain ⟨p7, n7, c7, hv7⟩ := OB.form3 ho7; subst hv7; have hi := hi.next hs1 ho7 hg7; clear ho7 hg7 hu)
              | (obtain ⟨hi, hx⟩ := hi.lit0 yb; refine step_bytes HR.out _ rfl _ _ _ rfl w1.heap.size v5 (Y ++ lowB aa 8) rfl hi.l.own _ [yb] rfl (Src.ofBS un_bsS hx) (by have := Hs.out.2.1; simp only [List.length_append, lowB_length, List.length_cons, List.length_nil]; omega) hi.l.bel.size ?_; intro v7 W7 ho7 hg7; obtain ⟨p7, n7, c7, hv7⟩ := OB.form3 ho7; subst hv7; have hi := hi.next hs1 ho7 hg7; clear ho7 hg7 hu)
              | (obtain ⟨hi, hx, -⟩ := hi.lit yb; refine step_bytes HR.out _ rfl _ _ _ rfl w1.heap.size v5 (Y ++ lowB aa 8) rfl hi.l.own _ [yb] rfl (Src.ofBS un_bsS (OB.bs (l := [yb]) hx (by simp))) (by have := Hs.out.2.1; simp only [List.length_append, lowB_length, List.length_cons, List.length_nil]; omega) hi.l.bel.size ?_; intro v7 W7 ho7 hg7; obtain ⟨p7, n7, c7, hv7⟩ := OB.form3 ho7; subst hv7; have hi := hi.next hs1 ho7 hg7; clear ho7 hg7 hu)
              | (go_at_call 45; have hq := rf_blob _ w1.heap.size _ _ bs pp pc (Hs.out.2.2.2.below hi.l.bel) (fun b hb => bs_lt Hs.out.2.2.2 hb) hi.l.own (by have := Hs.out.2.1; simp only [List.length_append, lowB_length, List.length_cons, List.length_nil]; omega) hi.l.bel.size; (with_reducible refine hq.mono ?_); clear hq; rintro e w8 ⟨v8, rfl, ho8, hg8⟩; have hi := hi.next hs1 ho8 hg8; clear ho8 hg8)
              | fail "no call")
          all_goals
            have hi := hid hi
            go_wp2_with fail
            refine ⟨⟨q + 1, by omega, by go_num, ?_⟩, by simp [intOf]; omega⟩
            rw [Hs.out.2.2.1]
            exact hi.out.l
        · rw [flat_all encP (by omega)] at hi
          have Hk := hid hi
          clear hi
          go_wp2_with fail
          refine (rf_low _ w1.heap.size _ _ t.inits.length 4 4 rfl (by omega) (by omega) Hk.out.own (by have := HS.out.2.2.2.2.1; have := HS.out.2.2.2.2.2.2; rw [List.length_append]; omega) Hk.out.bel.size).mono ?_
          rintro e w9 ⟨v9, rfl, ho9, hg9⟩
          have hi9 := Hk.out.next hs1 ho9 hg9
          rw [← HS.out.2.2.1] at hi9
          have H9 := hid hi9
          clear ho9 hg9 hi9 x0 x1 x2 x3 x4 x5 x6
          go_wp2_with fail
          go_loopw [3, 9] (fun v i wr => ∃ k : Nat, k ≤ t.inits.length ∧ i = .int .i64 (k : Int) ∧ ULn w1 wr w.heap.size t v (X2 ++ (t.inits.take k).flatMap InitM.enc)) (fun _ i _ => t.inits.length - (intOf i).toNat)
          case atStart => exact ⟨0, Nat.zero_le _, rfl, by simpa using H9.out⟩
          case round =>
            rename World => wn
            obtain ⟨p, hp, rfl, hi⟩ := hrel
            obtain ⟨x0, x1, x2, x3, x4, x5, x6⟩ := hi.box.atV
            by_cases hlt3 : p < t.inits.length
            · obtain ⟨x, hx⟩ : ∃ x, t.inits[p]? = some x := ⟨_, List.getElem?_eq_getElem hlt3⟩
              obtain ⟨g, off, hip, y0, y1⟩ := InitsAt.cell HE.out.1.inits hx
              have gl : g < w1.heap.size := by have := World.block_lt_of_cell? w1 _ y0; simpa using this
              obtain ⟨hat8, hbad⟩ := HE.out.2.2.2 x (List.mem_of_getElem? hx)
              have e1 := flat_snoc InitM.enc hx
              have e2 := flat_take_le InitM.enc t.inits (p + 1)
              obtain ⟨im, aa⟩ := x
              dsimp only at y0 y1 hat8
              obtain ⟨n1, n2⟩ := not_badI hbad
              dsimp only at n1 n2
              have e0 : InitM.enc ⟨im, aa⟩ = lowB im.toNat 2 ++ lowB aa 8 := rfl
              rw [e0] at e1
              rw [e1] at e2
              simp only [List.length_append, lowB_length] at e2
              have hlen : (X2 ++ (t.inits.take p).flatMap InitM.enc).length + (2 + 8) ≤ 140737488355328 := by
                have := HS.out.2.2.2.2.2.1; have := HS.out.2.2.2.2.2.2; rw [List.length_append]; omega
              obtain ⟨Y, hY⟩ : ∃ Y, Y = X2 ++ (t.inits.take p).flatMap InitM.enc := ⟨_, rfl⟩
              rw [← hY] at hlen hi
              have e3 : X2 ++ (t.inits.take (p + 1)).flatMap InitM.enc = Y ++ lowB im.toNat 2 ++ lowB aa 8 := by
                rw [e1, hY]; simp only [List.append_assoc]
              obtain ⟨m, hm⟩ : ∃ m, m = im.toNat := ⟨_, rfl⟩
              have hwm2 : IntKind.u64.wrap im = (m : Int) := (IntWalk.u64_in _ (by omega)).trans (by omega)
              have hm8 : m < 2 ^ 64 := by omega
              rw [← hm] at e3
              have hwp : IntKind.i64.wrap (p : Int) = (p : Int) := IntWalk.i64_in _ (by omega)
              have hp1 : decide ((p : Int) < (t.inits.length : Int)) = true := decide_eq_true (by omega)
              have hkp : ∀ W v ys, ULn w1 W w.heap.size t v ys → W.cell? ⟨w.heap.size, 5, none⟩ = some (.slice (some ⟨g, off, none⟩) t.inits.length t.nc) ∧ W.cell? ⟨g, off + p * 2, none⟩ = some (.int .i64 im) ∧ W.cell? ⟨g, off + p * 2 + 1, none⟩ = some (.int .u64 (aa : Int)) :=
                fun W v ys h => ⟨by have := h.box.atV.2.2.2.2.2.1; rwa [hip] at this, below_cell' h.bel gl y0, below_cell' h.bel gl y1⟩
              have HK := hid hkp
              have Hs := hid (And.intro hi (And.intro hlen e3))
              rw [hip] at x5
              clear hi hx hip hbad e1 e2 e0 hlen hY e3 hkp gl y0 y1 n1 n2 hm x0 x1 x2 x3 x4 x6
              go_upto_region 23 with fail
              clear x5
              have hi := Hs.out.1.drew
              go_region_held (fun W => W.cell? ⟨w.heap.size, 5, none⟩ = some (.slice (some ⟨g, off, none⟩) t.inits.length t.nc) ∧ W.cell? ⟨g, off + p * 2, none⟩ = some (.int .i64 im) ∧ W.cell? ⟨g, off + p * 2 + 1, none⟩ = some (.int .u64 (aa : Int))) (exact HK.out _ _ _ hi)
                (first
                  | (go_at_call 43; have hq := rf_low _ w1.heap.size _ _ m 2 2 rfl (by omega) hm8 hi.own (by have := Hs.out.2.1; omega) hi.bel.size; (with_reducible refine hq.mono ?_); clear hq; rintro e w7 ⟨v7, rfl, ho7, hg7⟩; have hi := hi.next hs1 ho7 hg7; clear ho7 hg7)
                  | (go_at_call 43; have hq := rf_low _ w1.heap.size _ _ aa 8 8 rfl (by omega) hat8 hi.own (by have := Hs.out.2.1; simp only [List.length_append, lowB_length]; omega) hi.bel.size; (with_reducible refine hq.mono ?_); clear hq; rintro e w8 ⟨v8, rfl, ho8, hg8⟩; have hi := hi.next hs1 ho8 hg8; clear ho8 hg8)
                  | fail "no call")
              all_goals
                have hi := hid hi
                go_wp2_with fail
                refine ⟨⟨p + 1, by omega, by go_num, ?_⟩, by simp [intOf]; omega⟩
                rw [Hs.out.2.2]
                exact hi.out
            · rw [flat_all InitM.enc (by omega)] at hi
              have Hz := hid hi
              have he8 : t.entry < 2 ^ 64 := HE.out.1.entry
              clear hi
              go_wp2_with fail
              refine (rf_low _ w1.heap.size _ _ t.entry 8 8 rfl (by omega) he8 Hz.out.own (by have := HS.out.2.2.2.2.2.1; have := HS.out.2.2.2.2.2.2; rw [List.length_append]; omega) Hz.out.bel.size).mono ?_
              rintro e wz ⟨vz, rfl, hoz, hgz⟩
              have Hf := hid (Hz.out.next hs1 hoz hgz)
              clear hoz hgz x0 x1 x2 x3 x4 x5 x6
              go_wp2_with fail
              go_ret
              exact ⟨_, rfl, Hf.out.own.base (Nat.le_of_lt hs1), HW.out.1.trans (Hf.out.bel.mono (Nat.le_of_lt hs1))⟩
end Go.Proofs.YtfkpbgookilhjaaGreatDoor
