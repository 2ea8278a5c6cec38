/- The reference's MayTell of what is linked. -/
import Derived.Test.YtfkpbgookilhjaaGreatDoorZScTg
import Derived.Test.YtfkpbgookilhjaaGreatDoorZScTp
import Derived.Deep.QuietTactic
namespace Go.Proofs.YtfkpbgookilhjaaGreatDoor
set_option linter.unusedSimpArgs false
set_option linter.unusedVariables false
open Go.RowKit

structure NtIn (w W : World) (t : ToldV) : Prop where
  i : RtIn w W t
  at_ : ToldAt W t
theorem NtIn.below {w W W' : World} {t : ToldV} (h : NtIn w W t) (hb : Below W.heap.size W W') : NtIn w W' t := ⟨h.i.below hb, h.at_.below hb⟩
theorem below_drewN (W : World) (q : Nat) : Below W.heap.size W (W.drewN q) := by
  have r := Below.refl W.heap.size W
  exact ⟨r.os, r.tape, r.output, r.size, r.block⟩
theorem NtIn.drewN {w W : World} {t : ToldV} (h : NtIn w W t) (q : Nat) : NtIn w (W.drewN q) t := h.below (below_drewN W q)
theorem NtIn.xs {w W : World} {sp : Option Addr} {sc : Nat} {seats : List SeatV} {mp : Option Addr} {mc : Nat} {mem : List PieceV} {np : Option Addr} {nc : Nat} {inits : List InitM} {entry : Nat} (h : NtIn w W ⟨0, [], 0, sp, sc, seats, mp, mc, mem, np, nc, inits, entry⟩) :
    W.cell? ⟨w.heap.size, 0, none⟩ = some (.int .i64 0) ∧ W.cell? ⟨w.heap.size, 1, none⟩ = some (.string (mkS [])) ∧ W.cell? ⟨w.heap.size, 2, none⟩ = some (.int .i64 0) ∧ W.cell? ⟨w.heap.size, 3, none⟩ = some (.slice sp seats.length sc) ∧ W.cell? ⟨w.heap.size, 4, none⟩ = some (.slice mp mem.length mc) ∧ W.cell? ⟨w.heap.size, 5, none⟩ = some (.slice np inits.length nc) ∧ W.cell? ⟨w.heap.size, 6, none⟩ = some (.int .u64 (entry : Int)) ∧
    W.cell? ⟨w.heap.size + 1, 0, none⟩ = some (.int .i64 0) ∧ W.cell? ⟨w.heap.size + 1, 1, none⟩ = some (.string (mkS [])) ∧ W.cell? ⟨w.heap.size + 1, 2, none⟩ = some (.int .i64 0) := by
  obtain ⟨x0, x1, x2, x3, x4, x5, x6⟩ := h.i.box.atV
  obtain ⟨f0, f1, f2⟩ := h.i.fs
  exact ⟨x0, x1, x2, x3, x4, x5, x6, f0, f1, f2⟩

set_option maxHeartbeats 4000000 in
set_option maxRecDepth 10000 in
theorem rt_may_no (w : World) (t : ToldV) (her : t.er = 0) (hno0 : ¬ (t.ph = 0 ∧ t.img = [])) :
    Calls Tryz.prog 17 #[.agg t.h.cells] w fun e w' => e = .returned (.bool (mayLV t)) ∧ Below w.heap.size w w' := by
  obtain ⟨R, hR⟩ : ∃ R, R = mayLV t := ⟨_, rfl⟩
  have hR0 : R = false := by
    rw [hR]
    refine bool_no fun hm => hno0 ?_
    unfold mayLV headT at hm
    simp only [Bool.and_eq_true, decide_eq_true_eq, Bool.not_eq_true', List.isEmpty_iff] at hm
    obtain ⟨⟨⟨⟨⟨⟨⟨⟨a1, a2⟩, a3⟩, a4⟩, a5⟩, a6⟩, a7⟩, a8⟩, a9⟩ := hm
    exact ⟨a1, a2⟩
  rw [← hR, hR0]
  obtain ⟨W, hW⟩ : ∃ W, W = ((w.alloc (.cells #[.int .i64 t.ph, .string (mkS t.img), .int .i64 t.er, .slice t.sp t.seats.length t.sc, .slice t.mp t.mem.length t.mc, .slice t.np t.inits.length t.nc, .int .u64 (t.entry : Int)] 49)).alloc (.cells #[.int .i64 t.ph, .string (mkS t.img), .int .i64 t.er] 45)) := ⟨_, rfl⟩
  have hi : RtIn w W t := by rw [hW]; exact RtIn.new w t
  have H := hid (And.intro hi hW.symm)
  obtain ⟨x0, x1, x2, x3, x4, x5, x6⟩ := hi.box.atV
  obtain ⟨f0, f1, f2⟩ := hi.fs
  obtain ⟨g0, g1, g2, g3, g4, g5, g6⟩ := (ToldBox.new w t.h).atV
  have hn : (t.er != 0) = false := by rw [her]; rfl
  clear hi hW hR her hR0
  show Calls Tryz.prog 17 #[.agg #[.int .i64 t.ph, .string (mkS t.img), .int .i64 t.er, .slice t.sp t.seats.length t.sc, .slice t.mp t.mem.length t.mc, .slice t.np t.inits.length t.nc, .int .u64 (t.entry : Int)]] w _
  by_cases hp : t.ph = 0
  case neg =>
    have e0 : (t.ph != 0) = true := by unfold bne; rw [beq_eq_false_iff_ne.2 hp]; rfl
    have C := hid hno0
    clear hno0 hp
    go_enter Tryz.func17, Tryz.ntmps17
    go_upto_region 2 with fail
    rw [H.out.2]
    go_wp2_with fail
    go_ret
    exact ⟨by first | rfl | simp, H.out.1.bel⟩
  by_cases hm : t.img = []
  case neg =>
    have e0 : (t.ph != 0) = false := by rw [hp]; rfl
    have C := hid (And.intro hno0 hp)
    clear hno0 hp
    go_enter Tryz.func17, Tryz.ntmps17
    go_upto_region 2 with fail
    rw [H.out.2]
    go_wp2_with fail
    go_ret
    exact ⟨by first | rfl | simp, H.out.1.bel⟩
  exact absurd ⟨hp, hm⟩ hno0

set_option maxHeartbeats 4000000 in
set_option maxRecDepth 10000 in
theorem rt_may_no2 (w : World) (sp : Option Addr) (sc : Nat) (seats : List SeatV) (mp : Option Addr) (mc : Nat) (mem : List PieceV) (np : Option Addr) (nc : Nat) (inits : List InitM) (entry : Nat) (h : ToldAt w ⟨0, [], 0, sp, sc, seats, mp, mc, mem, np, nc, inits, entry⟩) (hno0 : ¬ (¬ 65535 < seats.length ∧ ¬ 65535 < mem.length ∧ ¬ 1000000 < inits.length)) :
    Calls Tryz.prog 17 #[.agg #[.int .i64 0, .string (mkS []), .int .i64 0, .slice sp seats.length sc, .slice mp mem.length mc, .slice np inits.length nc, .int .u64 (entry : Int)]] w fun e w' => e = .returned (.bool false) ∧ Below w.heap.size w w' := by
  obtain ⟨W0, hW0⟩ : ∃ W0, W0 = ((w.alloc (.cells #[.int .i64 0, .string (mkS []), .int .i64 0, .slice sp seats.length sc, .slice mp mem.length mc, .slice np inits.length nc, .int .u64 (entry : Int)] 49)).alloc (.cells #[.int .i64 0, .string (mkS []), .int .i64 0] 45)) := ⟨_, rfl⟩
  have hM : NtIn w W0 ⟨0, [], 0, sp, sc, seats, mp, mc, mem, np, nc, inits, entry⟩ := by
    have hi : RtIn w W0 ⟨0, [], 0, sp, sc, seats, mp, mc, mem, np, nc, inits, entry⟩ := by rw [hW0]; exact RtIn.new w ⟨0, [], 0, sp, sc, seats, mp, mc, mem, np, nc, inits, entry⟩
    exact ⟨hi, h.below hi.bel⟩
  have H := hid (And.intro hM.i hW0.symm)
  obtain ⟨x0, x1, x2, x3, x4, x5, x6, f0, f1, f2⟩ := hM.xs
  obtain ⟨g0, g1, g2, g3, g4, g5, g6⟩ := (ToldBox.new w (ToldV.h ⟨0, [], 0, sp, sc, seats, mp, mc, mem, np, nc, inits, entry⟩)).atV
  dsimp only at g0 g1 g2 g3 g4 g5 g6
  clear h hM hW0
  by_cases h1 : 65535 < seats.length
  · obtain ⟨d1, d2⟩ := dec_lt h1
    have C := hid hno0
    clear hno0
    go_enter Tryz.func17, Tryz.ntmps17
    go_upto_region 2 with fail
    rw [H.out.2]
    go_wp2_with fail
    go_ret
    exact ⟨by first | rfl | simp, H.out.1.bel⟩
  obtain ⟨d1, d2⟩ := dec_ge h1
  by_cases h2 : 65535 < mem.length
  · obtain ⟨d3, d4⟩ := dec_lt h2
    have C := hid hno0
    clear hno0
    go_enter Tryz.func17, Tryz.ntmps17
    go_upto_region 2 with fail
    rw [H.out.2]
    go_wp2_with fail
    go_ret
    exact ⟨by first | rfl | simp, H.out.1.bel⟩
  obtain ⟨d3, d4⟩ := dec_ge h2
  by_cases h3 : 1000000 < inits.length
  · obtain ⟨d5, d6⟩ := dec_lt h3
    have C := hid hno0
    clear hno0
    go_enter Tryz.func17, Tryz.ntmps17
    go_upto_region 2 with fail
    rw [H.out.2]
    go_wp2_with fail
    go_ret
    exact ⟨by first | rfl | simp, H.out.1.bel⟩
  obtain ⟨d5, d6⟩ := dec_ge h3
  exact absurd ⟨h1, h2, h3⟩ hno0

end Go.Proofs.YtfkpbgookilhjaaGreatDoor

namespace Go.Proofs.YtfkpbgookilhjaaGreatDoor
set_option linter.unusedSimpArgs false
set_option linter.unusedVariables false
open Go.RowKit

set_option maxHeartbeats 4000000 in
set_option maxRecDepth 10000 in
theorem rt_may_yes (w : World) (sp : Option Addr) (sc : Nat) (seats : List SeatV) (mp : Option Addr) (mc : Nat) (mem : List PieceV) (np : Option Addr) (nc : Nat) (inits : List InitM) (entry : Nat) (h : ToldAt w ⟨0, [], 0, sp, sc, seats, mp, mc, mem, np, nc, inits, entry⟩) (h1 : ¬ 65535 < seats.length) (h2 : ¬ 65535 < mem.length) (h3 : ¬ 1000000 < inits.length) :
    Calls Tryz.prog 17 #[.agg #[.int .i64 0, .string (mkS []), .int .i64 0, .slice sp seats.length sc, .slice mp mem.length mc, .slice np inits.length nc, .int .u64 (entry : Int)]] w fun e w' => e = .returned (.bool (!seats.any badSV && !mem.any badPV && decide (19 + 10 * inits.length + sumS seats + sumP mem ≤ 67108864) && !inits.any badI)) ∧ Below w.heap.size w w' := by
  obtain ⟨d1, d2⟩ := dec_ge h1
  obtain ⟨d3, d4⟩ := dec_ge h2
  obtain ⟨d5, d6⟩ := dec_ge h3
  obtain ⟨b1, hb1⟩ : ∃ b, b = seats.any badSV := ⟨_, rfl⟩
  obtain ⟨b2, hb2⟩ : ∃ b, b = mem.any badPV := ⟨_, rfl⟩
  obtain ⟨b3, hb3⟩ : ∃ b, b = inits.any badI := ⟨_, rfl⟩
  obtain ⟨W0, hW0⟩ : ∃ W0, W0 = ((w.alloc (.cells #[.int .i64 0, .string (mkS []), .int .i64 0, .slice sp seats.length sc, .slice mp mem.length mc, .slice np inits.length nc, .int .u64 (entry : Int)] 49)).alloc (.cells #[.int .i64 0, .string (mkS []), .int .i64 0] 45)) := ⟨_, rfl⟩
  have hM : NtIn w W0 ⟨0, [], 0, sp, sc, seats, mp, mc, mem, np, nc, inits, entry⟩ := by
    have hi : RtIn w W0 ⟨0, [], 0, sp, sc, seats, mp, mc, mem, np, nc, inits, entry⟩ := by rw [hW0]; exact RtIn.new w ⟨0, [], 0, sp, sc, seats, mp, mc, mem, np, nc, inits, entry⟩
    exact ⟨hi, h.below hi.bel⟩
  obtain ⟨D, hD⟩ : ∃ D, D = decide (19 + 10 * inits.length + sumS seats + sumP mem ≤ 67108864) := ⟨_, rfl⟩
  rw [← hb1, ← hb2, ← hb3, ← hD]
  have H := hid (And.intro hM (And.intro hb1 (And.intro hb2 (And.intro hb3 hW0.symm))))
  have HD := hid hD
  obtain ⟨x0, x1, x2, x3, x4, x5, x6, f0, f1, f2⟩ := H.out.1.xs
  obtain ⟨g0, g1, g2, g3, g4, g5, g6⟩ := (ToldBox.new w (ToldV.h ⟨0, [], 0, sp, sc, seats, mp, mc, mem, np, nc, inits, entry⟩)).atV
  dsimp only at g0 g1 g2 g3 g4 g5 g6
  clear h hM hb1 hb2 hb3 hW0 hD
  go_enter Tryz.func17, Tryz.ntmps17
  go_upto_region 2 with fail
  rw [H.out.2.2.2.2]
  clear g0 g1 g2 g3 g4 g5 g6
  go_wp2_with fail
  go_loopw [4, 5] (fun a i wr => ∃ k : Nat, k ≤ seats.length ∧ i = .int .i64 (k : Int) ∧ (∃ s : Nat, s = 19 + sumS (seats.take k) ∧ a = .int .i64 (s : Int)) ∧ (seats.take k).any badSV = false ∧ NtIn w wr ⟨0, [], 0, sp, sc, seats, mp, mc, mem, np, nc, inits, entry⟩) (fun _ i _ => seats.length - (intOf i).toNat)
  case atStart => exact ⟨0, Nat.zero_le _, rfl, ⟨_, rfl, by simp [sumS]⟩, rfl, H.out.1⟩
  case round =>
    clear x0 x1 x2 x3 x4 x5 x6 f0 f1 f2
    obtain ⟨k, hk, rfl, ⟨S, hS, rfl⟩, hany, hi⟩ := hrel
    rename World => wo
    obtain ⟨x0, x1, x2, x3, x4, x5, x6, f0, f1, f2⟩ := hi.xs
    by_cases hlt : k < seats.length
    · obtain ⟨x, hx⟩ : ∃ x, seats[k]? = some x := ⟨_, List.getElem?_eq_getElem hlt⟩
      obtain ⟨g, off, rfl, y0, y1, y2⟩ := SeatsAt.cell hi.at_.seats hx
      have hdep := hi.at_.deps x (List.mem_of_getElem? hx)
      have hSb : sumS (seats.take k) ≤ 20000000000 := sumS_le hany (by rw [List.length_take]; omega)
      have hsn : sumS (seats.take (k + 1)) = sumS (seats.take k) + sizSV x := sum_snoc sizSV hx
      obtain ⟨pa, sl, dp, dc, ds⟩ := x
      dsimp only at y0 y1 y2 hdep
      have hal : Below wo.heap.size wo (wo.alloc (.cells #[.string (mkS pa), .int .u64 (sl : Int), .slice dp ds.length dc] 90)) := (Below.refl _ _).alloc (Nat.le_refl _) _
      have hrow := heap_alloc_new wo (.cells #[.string (mkS pa), .int .u64 (sl : Int), .slice dp ds.length dc] 90)
      by_cases c1 : 65535 < pa.length
      · obtain ⟨e1, e2⟩ := dec_lt c1
        have hbad : badSV ⟨pa, sl, dp, dc, ds⟩ = true := by unfold badSV; rw [e2]; rfl
        have hno : b1 = true := by rw [H.out.2.1]; exact any_one hx hbad
        have Hi := hid (hi.below hal)
        clear hi hx hany hdep hSb hsn hS hal hrow hbad
        go_wp2_with fail
        go_ret
        exact ⟨by first | (rw [hno]; simp; done) | (simp; done), Hi.out.i.bel⟩
      obtain ⟨e1, e2⟩ := dec_ge c1
      by_cases c2 : 65535 < ds.length
      · obtain ⟨e3, e4⟩ := dec_lt c2
        have hbad : badSV ⟨pa, sl, dp, dc, ds⟩ = true := by unfold badSV; rw [e2, e4]; rfl
        have hno : b1 = true := by rw [H.out.2.1]; exact any_one hx hbad
        have Hi := hid (hi.below hal)
        clear hi hx hany hdep hSb hsn hS hal hrow hbad
        go_wp2_with fail
        go_ret
        exact ⟨by first | (rw [hno]; simp; done) | (simp; done), Hi.out.i.bel⟩
      obtain ⟨e3, e4⟩ := dec_ge c2
      have hbad : badSV ⟨pa, sl, dp, dc, ds⟩ = ds.any badD := by unfold badSV; rw [e2, e4]; rfl
      have hb2 := hi.below hal
      have Hi := hid (And.intro hb2 (And.intro hrow (And.intro hx (And.intro hany (And.intro hsn (And.intro hbad (And.intro hS (And.intro hSb hdep))))))))
      clear hi hx hany hdep hsn hS hal hrow hbad hSb hb2
      go_wp2_with fail
      go_loopw [7] (fun i wr => ∃ j : Nat, j ≤ ds.length ∧ i = .int .i64 (j : Int) ∧ (ds.take j).any badD = false ∧ NtIn w wr ⟨0, [], 0, some ⟨g, off, none⟩, sc, seats, mp, mc, mem, np, nc, inits, entry⟩ ∧ Below wo.heap.size wo wr ∧ wr.heap[wo.heap.size]? = some (.cells #[.string (mkS pa), .int .u64 (sl : Int), .slice dp ds.length dc] 90 (0, 0))) (fun i _ => ds.length - (intOf i).toNat)
      case atStart => exact ⟨0, Nat.zero_le _, rfl, rfl, Hi.out.1, (Below.refl _ _).alloc (Nat.le_refl _) _, Hi.out.2.1⟩
      case round =>
        clear x0 x1 x2 x3 x4 x5 x6 f0 f1 f2 y0 y1 y2
        obtain ⟨j, hj, rfl, hanj, hi, hbw, hrow⟩ := hrel
        have y0 := cell_of_row wr _ 0 _ _ _ hrow
        have y2 := cell_of_row wr _ 2 _ _ _ hrow
        by_cases hjl : j < ds.length
        · obtain ⟨d, hd⟩ : ∃ d, ds[j]? = some d := ⟨_, List.getElem?_eq_getElem hjl⟩
          obtain ⟨gd, od, rfl, z0⟩ := IntsAt.cell (RowsAt.below Hi.out.2.2.2.2.2.2.2.2 hbw) hd
          have hwj : IntKind.i64.wrap (j : Int) = (j : Int) := IntWalk.i64_in _ (by omega)
          by_cases g1 : d < -1
          · have q1 : decide (d < -1) = true := decide_eq_true g1
            have hbd : badD d = true := by unfold badD inB2; rw [decide_eq_false (by omega : ¬ -1 ≤ d)]; rfl
            have hno : b1 = true := by rw [H.out.2.1]; exact any_one Hi.out.2.2.1 (by rw [Hi.out.2.2.2.2.2.1]; exact any_one hd hbd)
            have Hj := hid hi
            clear hi hd hanj hrow hbd g1
            go_wp2_with fail
            go_ret
            exact ⟨by first | (rw [hno]; simp; done) | (simp; done), Hj.out.i.bel⟩
          have q1 : decide (d < -1) = false := decide_eq_false g1
          by_cases g2 : 65534 < d
          · have q2 : decide (65534 < d) = true := decide_eq_true g2
            have hbd : badD d = true := by unfold badD inB2; rw [decide_eq_false (by omega : ¬ d ≤ 65534), Bool.and_false]; rfl
            have hno : b1 = true := by rw [H.out.2.1]; exact any_one Hi.out.2.2.1 (by rw [Hi.out.2.2.2.2.2.1]; exact any_one hd hbd)
            have Hj := hid hi
            clear hi hd hanj hrow hbd g1 g2
            go_wp2_with fail
            go_ret
            exact ⟨by first | (rw [hno]; simp; done) | (simp; done), Hj.out.i.bel⟩
          have q2 : decide (65534 < d) = false := decide_eq_false g2
          have hbd : badD d = false := by unfold badD inB2; rw [decide_eq_true (by omega : -1 ≤ d), decide_eq_true (by omega : d ≤ 65534)]; rfl
          have Hj := hid (And.intro hi (And.intro hbw (And.intro hrow (any_more hd hanj hbd))))
          clear hi hd hanj hrow hbd g1 g2 hbw
          go_wp2_with fail
          exact ⟨⟨j + 1, by omega, by go_num, Hj.out.2.2.2, Hj.out.1, Hj.out.2.1, Hj.out.2.2.1⟩, by simp [intOf]; omega⟩
        · have hbq : badSV ⟨pa, sl, dp, dc, ds⟩ = false := by rw [Hi.out.2.2.2.2.2.1]; exact any_all hanj (by omega)
          have hSb := Hi.out.2.2.2.2.2.2.2.1
          have hS' : S ≤ 20010000019 := by have := Hi.out.2.2.2.2.2.2.1; omega
          have hw3 : IntKind.i64.wrap ((S : Int) + 12) = (S : Int) + 12 := IntWalk.i64_in _ (by omega)
          have hw4 : IntKind.i64.wrap (2 * (ds.length : Int)) = 2 * (ds.length : Int) := IntWalk.i64_in _ (by omega)
          have hw5 : IntKind.i64.wrap ((S : Int) + 12 + (pa.length : Int)) = (S : Int) + 12 + (pa.length : Int) := IntWalk.i64_in _ (by omega)
          have hw6 : IntKind.i64.wrap ((S : Int) + 12 + (pa.length : Int) + 2 * (ds.length : Int)) = (S : Int) + 12 + (pa.length : Int) + 2 * (ds.length : Int) := IntWalk.i64_in _ (by omega)
          have Hj := hid (And.intro hi hbq)
          clear hi hSb hanj hrow hbq hbw
          go_wp2_with fail
          refine ⟨⟨k + 1, by omega, by go_num, ⟨S + sizSV ⟨pa, sl, dp, dc, ds⟩, ?_, ?_⟩, any_more Hi.out.2.2.1 Hi.out.2.2.2.1 Hj.out.2, Hj.out.1⟩, by simp [intOf]; omega⟩
          · rw [Hi.out.2.2.2.2.1, Hi.out.2.2.2.2.2.2.1]; omega
          · unfold sizSV; first | (simp; done) | (simp; omega)
    · have hke : k = seats.length := by omega
      subst hke
      rw [List.take_length] at hS hany
      have hno1 : b1 = false := by rw [H.out.2.1]; exact hany
      have hSb : S ≤ 20010000019 := by have := sumS_le hany (by omega); omega
      have Hi := hid (And.intro hi (And.intro hS hno1))
      clear hi hS hno1 hany
      go_wp2_with fail
      go_loopw [4, 8] (fun a i wr => ∃ k : Nat, k ≤ mem.length ∧ i = .int .i64 (k : Int) ∧ (∃ s : Nat, s = S + sumP (mem.take k) ∧ a = .int .i64 (s : Int)) ∧ (mem.take k).any badPV = false ∧ NtIn w wr ⟨0, [], 0, sp, sc, seats, mp, mc, mem, np, nc, inits, entry⟩) (fun _ i _ => mem.length - (intOf i).toNat)
      case atStart => exact ⟨0, Nat.zero_le _, rfl, ⟨_, rfl, by simp [sumP]⟩, rfl, Hi.out.1⟩
      case round =>
        clear x0 x1 x2 x3 x4 x5 x6 f0 f1 f2
        obtain ⟨q, hq, rfl, ⟨T, hT, rfl⟩, hany, hi⟩ := hrel
        obtain ⟨x0, x1, x2, x3, x4, x5, x6, f0, f1, f2⟩ := hi.xs
        by_cases hlt2 : q < mem.length
        · obtain ⟨x, hx⟩ : ∃ x, mem[q]? = some x := ⟨_, List.getElem?_eq_getElem hlt2⟩
          obtain ⟨g, off, rfl, y0, y1, y2⟩ := PiecesAt.cell hi.at_.mem hx
          have hTb : sumP (mem.take q) ≤ 5000000000000 := sumP_le hany (by rw [List.length_take]; omega)
          have hsn : sumP (mem.take (q + 1)) = sumP (mem.take q) + sizPV x := sum_snoc sizPV hx
          obtain ⟨aa, pr, pp, pn, pc, bs⟩ := x
          dsimp only at y0 y1 y2
          have hwq : IntKind.i64.wrap (q : Int) = (q : Int) := IntWalk.i64_in _ (by omega)
          have hT' : T ≤ 6000000000000 := by omega
          by_cases g1 : pr < 0
          · have q1 : decide (pr < 0) = true := decide_eq_true g1
            have hbd : badPV ⟨aa, pr, pp, pn, pc, bs⟩ = true := by unfold badPV inB2; rw [decide_eq_false (by omega : ¬ 0 ≤ pr)]; rfl
            have hno : b2 = true := by rw [H.out.2.2.1]; exact any_one hx hbd
            have Hj := hid hi
            clear hi hx hany hsn hT hTb hbd g1
            go_wp2_with fail
            go_ret
            exact ⟨by first | (rw [hno]; simp; done) | (simp; done), Hj.out.i.bel⟩
          have q1 : decide (pr < 0) = false := decide_eq_false g1
          by_cases g2 : 255 < pr
          · have q2 : decide (255 < pr) = true := decide_eq_true g2
            have hbd : badPV ⟨aa, pr, pp, pn, pc, bs⟩ = true := by unfold badPV inB2; rw [decide_eq_false (by omega : ¬ pr ≤ 255), Bool.and_false]; rfl
            have hno : b2 = true := by rw [H.out.2.2.1]; exact any_one hx hbd
            have Hj := hid hi
            clear hi hx hany hsn hT hTb hbd g1 g2
            go_wp2_with fail
            go_ret
            exact ⟨by first | (rw [hno]; simp; done) | (simp; done), Hj.out.i.bel⟩
          have q2 : decide (255 < pr) = false := decide_eq_false g2
          have hin : inB2 pr 0 255 = true := by unfold inB2; rw [decide_eq_true (by omega : 0 ≤ pr), decide_eq_true (by omega : pr ≤ 255)]; rfl
          by_cases c1 : 67108864 < pn
          · obtain ⟨e1, e2⟩ := dec_lt c1
            have hbd : badPV ⟨aa, pr, pp, pn, pc, bs⟩ = true := by unfold badPV; rw [hin, e2]; rfl
            have hno : b2 = true := by rw [H.out.2.2.1]; exact any_one hx hbd
            have Hj := hid hi
            clear hi hx hany hsn hT hTb hbd g1 g2 hin
            go_wp2_with fail
            go_ret
            exact ⟨by first | (rw [hno]; simp; done) | (simp; done), Hj.out.i.bel⟩
          obtain ⟨e1, e2⟩ := dec_ge c1
          have hbd : badPV ⟨aa, pr, pp, pn, pc, bs⟩ = false := by unfold badPV; rw [hin, e2]; rfl
          have hw3 : IntKind.i64.wrap ((T : Int) + 13) = (T : Int) + 13 := IntWalk.i64_in _ (by omega)
          have hw4 : IntKind.i64.wrap ((T : Int) + 13 + (pn : Int)) = (T : Int) + 13 + (pn : Int) := IntWalk.i64_in _ (by omega)
          have Hj := hid (And.intro hi (And.intro hx (And.intro hany (And.intro hsn (And.intro hbd hT)))))
          clear hi hx hany hsn hT hTb hbd g1 g2 hin
          go_wp2_with fail
          refine ⟨⟨q + 1, by omega, by go_num, ⟨T + sizPV ⟨aa, pr, pp, pn, pc, bs⟩, ?_, ?_⟩, any_more Hj.out.2.1 Hj.out.2.2.1 Hj.out.2.2.2.2.1, Hj.out.1⟩, by simp [intOf]; omega⟩
          · rw [Hj.out.2.2.2.1, Hj.out.2.2.2.2.2]; omega
          · unfold sizPV; first | (simp; done) | (simp; omega)
        · have hqe : q = mem.length := by omega
          subst hqe
          rw [List.take_length] at hT hany
          have hno2 : b2 = false := by rw [H.out.2.2.1]; exact hany
          have hall : 19 + sumS seats + sumP mem = T := by have := Hi.out.2.1; omega
          have hTb : T ≤ 6000000000000 := by have := sumP_le hany (by omega); omega
          have Hk := hid (And.intro hi (And.intro hall hno2))
          clear hi hT hany hno2 hall
          go_wp2_with fail
          go_loopw [4, 9] (fun a i wr => ∃ k : Nat, k ≤ inits.length ∧ i = .int .i64 (k : Int) ∧ (∃ s : Nat, s = T + 10 * k ∧ a = .int .i64 (s : Int)) ∧ (inits.take k).any badI = false ∧ NtIn w wr ⟨0, [], 0, sp, sc, seats, mp, mc, mem, np, nc, inits, entry⟩) (fun _ i _ => inits.length - (intOf i).toNat)
          case atStart => exact ⟨0, Nat.zero_le _, rfl, ⟨_, rfl, by simp⟩, rfl, Hk.out.1⟩
          case round =>
            clear x0 x1 x2 x3 x4 x5 x6 f0 f1 f2
            obtain ⟨p, hp, rfl, ⟨U, hU, rfl⟩, hany, hi⟩ := hrel
            obtain ⟨x0, x1, x2, x3, x4, x5, x6, f0, f1, f2⟩ := hi.xs
            by_cases hlt3 : p < inits.length
            · obtain ⟨x, hx⟩ : ∃ x, inits[p]? = some x := ⟨_, List.getElem?_eq_getElem hlt3⟩
              obtain ⟨g, off, rfl, y0, y1⟩ := InitsAt.cell hi.at_.inits hx
              obtain ⟨im, aa⟩ := x
              dsimp only at y0 y1
              have hwp : IntKind.i64.wrap (p : Int) = (p : Int) := IntWalk.i64_in _ (by omega)
              by_cases g1 : im < 0
              · have q1 : decide (im < 0) = true := decide_eq_true g1
                have hbd : badI ⟨im, aa⟩ = true := by unfold badI inB2; rw [decide_eq_false (by omega : ¬ 0 ≤ im)]; rfl
                have hno : b3 = true := by rw [H.out.2.2.2.1]; exact any_one hx hbd
                have Hj := hid hi
                clear hi hx hany hU hbd g1
                go_wp2_with fail
                go_ret
                exact ⟨by first | (rw [hno]; simp; done) | (simp; done), Hj.out.i.bel⟩
              have q1 : decide (im < 0) = false := decide_eq_false g1
              by_cases g2 : 65535 < im
              · have q2 : decide (65535 < im) = true := decide_eq_true g2
                have hbd : badI ⟨im, aa⟩ = true := by unfold badI inB2; rw [decide_eq_false (by omega : ¬ im ≤ 65535), Bool.and_false]; rfl
                have hno : b3 = true := by rw [H.out.2.2.2.1]; exact any_one hx hbd
                have Hj := hid hi
                clear hi hx hany hU hbd g1 g2
                go_wp2_with fail
                go_ret
                exact ⟨by first | (rw [hno]; simp; done) | (simp; done), Hj.out.i.bel⟩
              have q2 : decide (65535 < im) = false := decide_eq_false g2
              have hbd : badI ⟨im, aa⟩ = false := by unfold badI inB2; rw [decide_eq_true (by omega : 0 ≤ im), decide_eq_true (by omega : im ≤ 65535)]; rfl
              have hU' : U ≤ 6000010000000 := by omega
              have hw3 : IntKind.i64.wrap ((U : Int) + 10) = (U : Int) + 10 := IntWalk.i64_in _ (by omega)
              have Hj := hid (And.intro hi (And.intro (any_more hx hany hbd) hU))
              clear hi hx hany hU hbd g1 g2
              go_wp2_with fail
              refine ⟨⟨p + 1, by omega, by go_num, ⟨U + 10, ?_, ?_⟩, Hj.out.2.1, Hj.out.1⟩, by simp [intOf]; omega⟩
              · have := Hj.out.2.2; omega
              · first | rfl | (simp; done) | (simp; omega)
            · have hpe : p = inits.length := by omega
              subst hpe
              rw [List.take_length] at hany
              have hno3 : b3 = false := by rw [H.out.2.2.2.1]; exact hany
              have hDT := HD.out
              rw [show 19 + 10 * inits.length + sumS seats + sumP mem = U by have := Hk.out.2.1; omega] at hDT
              have Hm := hid (And.intro hi (And.intro hno3 hDT))
              clear hi hU hany hno3 hDT
              by_cases c1 : U ≤ 67108864
              · have e1 : decide ((U : Int) ≤ 67108864) = true := decide_eq_true (by omega)
                have e2 : decide (U ≤ 67108864) = true := decide_eq_true c1
                go_wp2_with fail
                go_ret
                exact ⟨by rw [Hm.out.2.2, e2, Hm.out.2.1, Hk.out.2.2, Hi.out.2.2]; simp, Hm.out.1.i.bel⟩
              · have e1 : decide ((U : Int) ≤ 67108864) = false := decide_eq_false (by omega)
                have e2 : decide (U ≤ 67108864) = false := decide_eq_false c1
                go_wp2_with fail
                go_ret
                exact ⟨by rw [Hm.out.2.2, e2]; simp, Hm.out.1.i.bel⟩

theorem rt_may_linked (w : World) (t : ToldV) (h : ToldAt w t) (her : t.er = 0) :
    Calls Tryz.prog 17 #[.agg t.h.cells] w fun e w' => e = .returned (.bool (mayLV t)) ∧ Below w.heap.size w w' := by
  by_cases hc : t.ph = 0 ∧ t.img = []
  case neg => exact rt_may_no w t her hc
  obtain ⟨ph, img, er, sp, sc, seats, mp, mc, mem, np, nc, inits, entry⟩ := t
  dsimp only at hc her
  obtain ⟨rfl, rfl⟩ := hc
  subst her
  have e : mayLV ⟨0, [], 0, sp, sc, seats, mp, mc, mem, np, nc, inits, entry⟩ = (decide (seats.length ≤ 65535) && decide (mem.length ≤ 65535) && decide (inits.length ≤ 1000000) && (!seats.any badSV && !mem.any badPV && decide (19 + 10 * inits.length + sumS seats + sumP mem ≤ 67108864) && !inits.any badI)) := by
    unfold mayLV headT allV
    simp [Bool.and_assoc]
  by_cases hl : ¬ 65535 < seats.length ∧ ¬ 65535 < mem.length ∧ ¬ 1000000 < inits.length
  · rw [e, decide_eq_true (by omega : seats.length ≤ 65535), decide_eq_true (by omega : mem.length ≤ 65535), decide_eq_true (by omega : inits.length ≤ 1000000)]
    exact rt_may_yes w sp sc seats mp mc mem np nc inits entry h hl.1 hl.2.1 hl.2.2
  · have hf : mayLV ⟨0, [], 0, sp, sc, seats, mp, mc, mem, np, nc, inits, entry⟩ = false := by
      rw [e]
      refine bool_no fun hm => hl ?_
      simp only [Bool.and_eq_true, decide_eq_true_eq] at hm
      exact ⟨by omega, by omega, by omega⟩
    rw [hf]
    exact rt_may_no2 w sp sc seats mp mc mem np nc inits entry h hl
end Go.Proofs.YtfkpbgookilhjaaGreatDoor
