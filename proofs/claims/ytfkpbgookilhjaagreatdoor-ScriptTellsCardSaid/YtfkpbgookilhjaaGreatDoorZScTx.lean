/- The reference's MuchTold (it answers, yes or no), and Same. -/
import Derived.Test.YtfkpbgookilhjaaGreatDoorZScTb
import Derived.Test.YtfkpbgookilhjaaGreatDoorZScU
import Derived.Deep.QuietTactic
namespace Go.Proofs.YtfkpbgookilhjaaGreatDoor
set_option linter.unusedSimpArgs false
set_option linter.unusedVariables false
open Go.RowKit

structure OneT (w W : World) (a : Nat) (A : ToldV) : Prop where
  one : ToldBox W a A.h
  bel : Below w.heap.size w W
theorem OneT.drewN {w W : World} {a : Nat} {A : ToldV} (h : OneT w W a A) (q : Nat) : OneT w (W.drewN q) a A := ⟨h.one, ⟨h.bel.os, h.bel.tape, h.bel.output, h.bel.size, h.bel.block⟩⟩

set_option maxHeartbeats 4000000 in
theorem rt_much (w : World) (t : ToldV) (h : ToldAt w t) : Calls Tryz.prog 15 #[.agg t.h.cells] w fun e w' => ∃ b, e = .returned (.bool b) ∧ Below w.heap.size w w' := by
  have hT : OneT w (w.alloc (.cells t.h.cells 49)) w.heap.size t := ⟨ToldBox.new w t.h, (Below.refl _ _).alloc (Nat.le_refl _) _⟩
  have hl1 : t.seats.length ≤ 9223372036854775807 := h.seats.len
  have hl2 : t.mem.length ≤ 9223372036854775807 := h.mem.len
  have H := hid (And.intro hT h)
  clear hT h
  show Calls Tryz.prog 15 #[.agg #[.int .i64 t.ph, .string (mkS t.img), .int .i64 t.er, .slice t.sp t.seats.length t.sc, .slice t.mp t.mem.length t.mc, .slice t.np t.inits.length t.nc, .int .u64 (t.entry : Int)]] w _
  obtain ⟨x0, x1, x2, x3, x4, x5, x6⟩ := H.out.1.one.atV
  go_enter Tryz.func15, Tryz.ntmps15
  go_wp2_with fail
  go_loopw [3, 4] (fun n i wr => ∃ (k : Nat) (z : Int), k ≤ t.seats.length ∧ i = .int .i64 (k : Int) ∧ n = .int .i64 z ∧ OneT w wr w.heap.size t) (fun _ i _ => t.seats.length - (intOf i).toNat)
  case atStart => exact ⟨0, _, Nat.zero_le _, rfl, rfl, H.out.1⟩
  case round =>
    clear x0 x1 x2 x3 x4 x5 x6
    obtain ⟨k, z, hk, rfl, rfl, hi⟩ := hrel
    obtain ⟨x0, x1, x2, x3, x4, x5, x6⟩ := hi.one.atV
    by_cases hlt : k < t.seats.length
    · obtain ⟨f, hf⟩ : ∃ f, t.seats[k]? = some f := ⟨_, List.getElem?_eq_getElem hlt⟩
      obtain ⟨g1, o1, h1, z1, -, z2⟩ := SeatsAt.cell (RowsAt.below H.out.2.seats hi.bel) hf
      rw [h1] at x3
      have hwk : IntKind.i64.wrap (k : Int) = (k : Int) := IntWalk.i64_in _ (by omega)
      have Hi := hid hi
      clear hi hf h1
      go_upto_region 5 with fail
      go_quiet (fail)
      go_wp2_with fail
      exact ⟨⟨k + 1, _, by omega, by go_num, rfl, Hi.out.drewN _⟩, by simp [intOf]; omega⟩
    · have Hi := hid hi
      clear hi
      go_wp2_with fail
      go_loopw [3, 5] (fun n i wr => ∃ (k : Nat) (z : Int), k ≤ t.mem.length ∧ i = .int .i64 (k : Int) ∧ n = .int .i64 z ∧ OneT w wr w.heap.size t) (fun _ i _ => t.mem.length - (intOf i).toNat)
      case atStart => exact ⟨0, _, Nat.zero_le _, rfl, rfl, Hi.out⟩
      case round =>
        clear x0 x1 x2 x3 x4 x5 x6
        obtain ⟨q, z2, hq, rfl, rfl, hi⟩ := hrel
        obtain ⟨x0, x1, x2, x3, x4, x5, x6⟩ := hi.one.atV
        by_cases hlt2 : q < t.mem.length
        · obtain ⟨s, hs⟩ : ∃ s, t.mem[q]? = some s := ⟨_, List.getElem?_eq_getElem hlt2⟩
          obtain ⟨g1, o1, h1, -, -, z3⟩ := PiecesAt.cell (RowsAt.below H.out.2.mem hi.bel) hs
          rw [h1] at x4
          have hwq : IntKind.i64.wrap (q : Int) = (q : Int) := IntWalk.i64_in _ (by omega)
          have Hj := hid hi
          clear hi hs h1
          go_wp2_with fail
          exact ⟨⟨q + 1, _, by omega, by go_num, rfl, Hj.out⟩, by simp [intOf]; omega⟩
        · have Hj := hid hi
          clear hi
          cases hd : decide ((200000 : Int) < z2) with
          | true =>
            go_wp2_with fail
            go_ret
            exact ⟨_, rfl, Hj.out.bel⟩
          | false =>
            go_wp2_with fail
            go_ret
            exact ⟨_, rfl, Hj.out.bel⟩

/-- Two told values in two blocks. -/
structure TwoT (w W : World) (a b : Nat) (A B : ToldV) : Prop where
  one : ToldBox W a A.h
  two : ToldBox W b B.h
  bel : Below w.heap.size w W
theorem TwoT.below {w W W' : World} {a b : Nat} {A B : ToldV} (h : TwoT w W a b A B) (hb : Below W.heap.size W W') : TwoT w W' a b A B := ⟨h.one.below hb, h.two.below hb, h.bel.trans (hb.mono h.bel.size)⟩
theorem TwoT.drewN {w W : World} {a b : Nat} {A B : ToldV} (h : TwoT w W a b A B) (q : Nat) : TwoT w (W.drewN q) a b A B := ⟨h.one, h.two, ⟨h.bel.os, h.bel.tape, h.bel.output, h.bel.size, h.bel.block⟩⟩
theorem TwoT.new (w : World) (A B : ToldV) : TwoT w ((w.alloc (.cells A.h.cells 49)).alloc (.cells B.h.cells 49)) w.heap.size (w.heap.size + 1) A B := by
  have e1 : (w.alloc (.cells A.h.cells 49)).heap.size = w.heap.size + 1 := by simp
  have b1 : Below w.heap.size w (w.alloc (.cells A.h.cells 49)) := (Below.refl _ _).alloc (Nat.le_refl _) _
  have r1 := heap_alloc_new w (.cells A.h.cells 49)
  generalize w.alloc (.cells A.h.cells 49) = w1 at e1 b1 r1 ⊢
  have b2 : Below w1.heap.size w1 (w1.alloc (.cells B.h.cells 49)) := (Below.refl _ _).alloc (Nat.le_refl _) _
  have r2 := heap_alloc_new w1 (.cells B.h.cells 49)
  rw [e1] at r2
  exact ⟨(b2.block _ (by omega)).trans r1, r2, b1.trans (b2.mono (by omega))⟩
end Go.Proofs.YtfkpbgookilhjaaGreatDoor

namespace Go.Proofs.YtfkpbgookilhjaaGreatDoor
set_option linter.unusedSimpArgs false
set_option linter.unusedVariables false
open Go.RowKit

theorem two_new (w : World) (o1 o2 : Obj) : Below w.heap.size w ((w.alloc o1).alloc o2).drew ∧ ((w.alloc o1).alloc o2).drew.heap[w.heap.size]? = some o1 ∧ ((w.alloc o1).alloc o2).drew.heap[w.heap.size + 1]? = some o2 := by
  have e1 : (w.alloc o1).heap.size = w.heap.size + 1 := by simp
  have b1 : Below w.heap.size w (w.alloc o1) := (Below.refl _ _).alloc (Nat.le_refl _) _
  have r1 := heap_alloc_new w o1
  generalize w.alloc o1 = w1 at e1 b1 r1 ⊢
  have b2 : Below w1.heap.size w1 (w1.alloc o2) := (Below.refl _ _).alloc (Nat.le_refl _) _
  have r2 := heap_alloc_new w1 o2
  rw [e1] at r2
  have bb := b1.trans (b2.mono (by omega))
  exact ⟨⟨bb.os, bb.tape, bb.output, bb.size, bb.block⟩, (b2.block _ (by omega)).trans r1, r2⟩

/-- What stands while two seats' dependencies are gone over. -/
structure TwoD (w W : World) (A B : ToldV) (a b : Nat) (R S : Array Value) : Prop where
  t : TwoT w W w.heap.size (w.heap.size + 1) A B
  ra : W.heap[a]? = some (.cells R 90 (0, 0))
  rb : W.heap[b]? = some (.cells S 90 (0, 0))
theorem TwoD.drewN {w W : World} {A B : ToldV} {a b : Nat} {R S : Array Value} (h : TwoD w W A B a b R S) (q : Nat) : TwoD w (W.drewN q) A B a b R S := ⟨h.t.drewN q, h.ra, h.rb⟩

set_option maxHeartbeats 4000000 in
set_option maxRecDepth 8000 in
theorem rt_same (w : World) (A B : ToldV) (hA : ToldAt w A) (hB : ToldAt w B) (hm : A.m = B.m) (hl1 : B.seats.length ≤ 65535) (hl2 : B.mem.length ≤ 65535) (hl3 : B.inits.length ≤ 1000000) (hpb : ∀ s ∈ B.mem, s.n ≤ 67108864) (hdl : ∀ s ∈ B.seats, s.deps.length ≤ 65535) : Calls Tryz.prog 20 #[.agg A.h.cells, .agg B.h.cells] w fun e w' => e = .returned (.bool true) ∧ Below w.heap.size w w' := by
  obtain ⟨ph, img, er, sp, sc, seats, mp, mc, mem, np, nc, inits, entry⟩ := A
  obtain ⟨ph2, img2, er2, sp2, sc2, seats2, mp2, mc2, mem2, np2, nc2, inits2, entry2⟩ := B
  unfold ToldV.m at hm
  simp only [ToldM.mk.injEq] at hm
  obtain ⟨rfl, rfl, rfl, hss, hmm, rfl, rfl⟩ := hm
  dsimp only at hl1 hl2 hl3 hpb hdl
  have hsl : seats.length = seats2.length := by have := congrArg List.length hss; simpa using this
  have hml : mem.length = mem2.length := by have := congrArg List.length hmm; simpa using this
  have e1 : ((seats.length : Int) != (seats2.length : Int)) = false := by rw [hsl]; simp
  have e2 : ((mem.length : Int) != (mem2.length : Int)) = false := by rw [hml]; simp
  have hl4 : seats.length ≤ 65535 := by omega
  have hl5 : mem.length ≤ 65535 := by omega
  have hT := TwoT.new w ⟨ph, img, er, sp, sc, seats, mp, mc, mem, np, nc, inits, entry⟩ ⟨ph, img, er, sp2, sc2, seats2, mp2, mc2, mem2, np2, nc2, inits, entry⟩
  obtain ⟨W, hW⟩ : ∃ W, W = ((w.alloc (.cells #[.int .i64 ph, .string (mkS img), .int .i64 er, .slice sp seats.length sc, .slice mp mem.length mc, .slice np inits.length nc, .int .u64 (entry : Int)] 49)).alloc (.cells #[.int .i64 ph, .string (mkS img), .int .i64 er, .slice sp2 seats2.length sc2, .slice mp2 mem2.length mc2, .slice np2 inits.length nc2, .int .u64 (entry : Int)] 49)) := ⟨_, rfl⟩
  have hT : TwoT w ((w.alloc (.cells #[.int .i64 ph, .string (mkS img), .int .i64 er, .slice sp seats.length sc, .slice mp mem.length mc, .slice np inits.length nc, .int .u64 (entry : Int)] 49)).alloc (.cells #[.int .i64 ph, .string (mkS img), .int .i64 er, .slice sp2 seats2.length sc2, .slice mp2 mem2.length mc2, .slice np2 inits.length nc2, .int .u64 (entry : Int)] 49)) w.heap.size (w.heap.size + 1) ⟨ph, img, er, sp, sc, seats, mp, mc, mem, np, nc, inits, entry⟩ ⟨ph, img, er, sp2, sc2, seats2, mp2, mc2, mem2, np2, nc2, inits, entry⟩ := hT
  rw [← hW] at hT
  have H := hid (And.intro hT (And.intro hA (And.intro hB (And.intro hss (And.intro hmm (And.intro hsl (And.intro hml hW.symm)))))))
  have HP := hid (And.intro hpb hdl)
  clear hT hA hB hss hmm hsl hml hW hpb hdl
  show Calls Tryz.prog 20 #[.agg #[.int .i64 ph, .string (mkS img), .int .i64 er, .slice sp seats.length sc, .slice mp mem.length mc, .slice np inits.length nc, .int .u64 (entry : Int)], .agg #[.int .i64 ph, .string (mkS img), .int .i64 er, .slice sp2 seats2.length sc2, .slice mp2 mem2.length mc2, .slice np2 inits.length nc2, .int .u64 (entry : Int)]] w _
  go_enter Tryz.func20, Tryz.ntmps20
  go_upto_region 1 with fail
  rw [H.out.2.2.2.2.2.2.2]
  obtain ⟨x0, x1, x2, x3, x4, x5, x6⟩ := H.out.1.one.atV
  obtain ⟨y0, y1, y2, y3, y4, y5, y6⟩ := H.out.1.two.atV
  dsimp only at x0 x1 x2 x3 x4 x5 x6 y0 y1 y2 y3 y4 y5 y6
  go_wp2_with fail
  go_loopw [5] (fun i wr => ∃ k : Nat, k ≤ seats.length ∧ i = .int .i64 (k : Int) ∧ TwoT w wr w.heap.size (w.heap.size + 1) ⟨ph, img, er, sp, sc, seats, mp, mc, mem, np, nc, inits, entry⟩ ⟨ph, img, er, sp2, sc2, seats2, mp2, mc2, mem2, np2, nc2, inits, entry⟩) (fun i _ => seats.length - (intOf i).toNat)
  case atStart => exact ⟨0, Nat.zero_le _, rfl, H.out.1⟩
  case round =>
    clear x0 x1 x2 x3 x4 x5 x6 y0 y1 y2 y3 y4 y5 y6
    obtain ⟨k, hk, rfl, hi⟩ := hrel
    obtain ⟨x0, x1, x2, x3, x4, x5, x6⟩ := hi.one.atV
    obtain ⟨y0, y1, y2, y3, y4, y5, y6⟩ := hi.two.atV
    dsimp only at x0 x1 x2 x3 x4 x5 x6 y0 y1 y2 y3 y4 y5 y6
    have hwk : IntKind.i64.wrap (k : Int) = (k : Int) := IntWalk.i64_in _ (by omega)
    by_cases hlt : k < seats.length
    · obtain ⟨f, hf⟩ : ∃ f, seats[k]? = some f := ⟨_, List.getElem?_eq_getElem hlt⟩
      obtain ⟨f2, hf2⟩ : ∃ f, seats2[k]? = some f := ⟨seats2[k]'(by have := H.out.2.2.2.2.2.1; omega), List.getElem?_eq_getElem _⟩
      have hff : f.m = f2.m := by
        have h1 := congrArg (fun l => l[k]?) H.out.2.2.2.1
        simpa [hf, hf2] using h1
      have hlt3 : k < seats2.length := by have := H.out.2.2.2.2.2.1; omega
      obtain ⟨g1, o1, h1, s0, s1, s2⟩ := SeatsAt.cell (RowsAt.below H.out.2.1.seats hi.bel) hf
      obtain ⟨g2, o2, h2, t0, t1, t2⟩ := SeatsAt.cell (RowsAt.below H.out.2.2.1.seats hi.bel) hf2
      have d1 := RowsAt.below (H.out.2.1.deps f (List.mem_of_getElem? hf)) hi.bel
      have d2 := RowsAt.below (H.out.2.2.1.deps f2 (List.mem_of_getElem? hf2)) hi.bel
      have hdl := HP.out.2 f2 (List.mem_of_getElem? hf2)
      obtain ⟨pa, sl, dp, dc, ds⟩ := f
      obtain ⟨pa2, sl2, dp2, dc2, ds2⟩ := f2
      unfold SeatV.m at hff
      simp only [SeatM.mk.injEq] at hff
      obtain ⟨rfl, rfl, rfl⟩ := hff
      dsimp only at h1 h2 s0 s1 s2 t0 t1 t2 d1 d2 hdl
      rw [h1] at x3
      rw [h2] at y3
      have b1 : g1 < wr.heap.size := by have := World.block_lt_of_cell? wr _ s0; simpa using this
      have b2 : g2 < wr.heap.size := by have := World.block_lt_of_cell? wr _ t0; simpa using this
      have b3 : w.heap.size < wr.heap.size := hi.one.lt
      have b4 : w.heap.size + 1 < wr.heap.size := hi.two.lt
      have Hi := hid (And.intro hi (And.intro d1 d2))
      clear hi hf hf2 h1 h2 d1 d2
      go_upto_region 6 with fail
      go_cut [6, 7] (fun t6 t7 wx => ∃ a b, t6 = .pointer (some ⟨a, 0, none⟩) ∧ t7 = .pointer (some ⟨b, 0, none⟩) ∧ Below wr.heap.size wr wx ∧ wx.heap[a]? = some (.cells #[.string (mkS pa), .int .u64 (sl : Int), .slice dp ds.length dc] 90 (0, 0)) ∧ wx.heap[b]? = some (.cells #[.string (mkS pa), .int .u64 (sl : Int), .slice dp2 ds.length dc2] 90 (0, 0)))
      case first =>
        go_region
        all_goals
          go_wp2_with fail
          go_meet
          first
            | exact ⟨wr.heap.size, wr.heap.size + 1, rfl, rfl, (two_new wr _ _).1, (two_new wr _ _).2.1, (two_new wr _ _).2.2⟩
            | exact ⟨wr.heap.size + 1, wr.heap.size, rfl, rfl, (two_new wr _ _).1, (two_new wr _ _).2.2, (two_new wr _ _).2.1⟩
      case rest =>
        obtain ⟨a, b, rfl, rfl, hbb, ra, rb⟩ := hcut
        have hd : TwoD w wc ⟨ph, img, er, sp, sc, seats, mp, mc, mem, np, nc, inits, entry⟩ ⟨ph, img, er, sp2, sc2, seats2, mp2, mc2, mem2, np2, nc2, inits, entry⟩ a b #[.string (mkS pa), .int .u64 (sl : Int), .slice dp ds.length dc] #[.string (mkS pa), .int .u64 (sl : Int), .slice dp2 ds.length dc2] := ⟨Hi.out.1.below hbb, ra, rb⟩
        have d1 := RowsAt.below Hi.out.2.1 hbb
        have d2 := RowsAt.below Hi.out.2.2 hbb
        clear x0 x1 x2 x3 x4 x5 x6 y0 y1 y2 y3 y4 y5 y6 s0 s1 s2 t0 t1 t2 ra rb hbb b1 b2 b3 b4
        have u0 : wc.cell? ⟨a, 0, none⟩ = some (.string (mkS pa)) := cell_of_row _ _ 0 _ _ _ hd.ra
        have u1 : wc.cell? ⟨a, 1, none⟩ = some (.int .u64 (sl : Int)) := cell_of_row _ _ 1 _ _ _ hd.ra
        have u2 : wc.cell? ⟨a, 2, none⟩ = some (.slice dp ds.length dc) := cell_of_row _ _ 2 _ _ _ hd.ra
        have v0 : wc.cell? ⟨b, 0, none⟩ = some (.string (mkS pa)) := cell_of_row _ _ 0 _ _ _ hd.rb
        have v1 : wc.cell? ⟨b, 1, none⟩ = some (.int .u64 (sl : Int)) := cell_of_row _ _ 1 _ _ _ hd.rb
        have v2 : wc.cell? ⟨b, 2, none⟩ = some (.slice dp2 ds.length dc2) := cell_of_row _ _ 2 _ _ _ hd.rb
        have Hd := hid (And.intro hd (And.intro d1 d2))
        clear hd d1 d2
        go_wp2_with fail
        go_loopw [8] (fun i wq => ∃ j : Nat, j ≤ ds.length ∧ i = .int .i64 (j : Int) ∧ ∃ q, wq = wc.drewN q) (fun i _ => ds.length - (intOf i).toNat)
        case atStart => exact ⟨0, Nat.zero_le _, rfl, 0, rfl⟩
        case round =>
          obtain ⟨j, hj, rfl, q0, rfl⟩ := hrel
          have hwj : IntKind.i64.wrap (j : Int) = (j : Int) := IntWalk.i64_in _ (by omega)
          by_cases hlj : j < ds.length
          · obtain ⟨d, hdj⟩ : ∃ d, ds[j]? = some d := ⟨_, List.getElem?_eq_getElem hlj⟩
            obtain ⟨g3, o3, h3, c1⟩ := IntsAt.cell Hd.out.2.1 hdj
            obtain ⟨g4, o4, h4, c2⟩ := IntsAt.cell Hd.out.2.2 hdj
            subst h3
            subst h4
            have Hj := hid hdj
            clear hdj
            go_upto_region 12 with fail
            go_quiet (fail)
            go_wp2_with fail
            exact ⟨⟨j + 1, by omega, by go_num, _, rfl⟩, by simp [intOf]; omega⟩
          · go_wp2_with fail
            exact ⟨⟨k + 1, by omega, by go_num, Hd.out.1.t.drewN _⟩, by simp [intOf]; omega⟩
    · have Hi := hid hi
      clear hi hwk
      go_wp2_with fail
      go_loopw [9] (fun i wr => ∃ k : Nat, k ≤ mem.length ∧ i = .int .i64 (k : Int) ∧ TwoT w wr w.heap.size (w.heap.size + 1) ⟨ph, img, er, sp, sc, seats, mp, mc, mem, np, nc, inits, entry⟩ ⟨ph, img, er, sp2, sc2, seats2, mp2, mc2, mem2, np2, nc2, inits, entry⟩) (fun i _ => mem.length - (intOf i).toNat)
      case atStart => exact ⟨0, Nat.zero_le _, rfl, Hi.out⟩
      case round =>
        clear x0 x1 x2 x3 x4 x5 x6 y0 y1 y2 y3 y4 y5 y6
        obtain ⟨q, hq, rfl, hi⟩ := hrel
        obtain ⟨x0, x1, x2, x3, x4, x5, x6⟩ := hi.one.atV
        obtain ⟨y0, y1, y2, y3, y4, y5, y6⟩ := hi.two.atV
        dsimp only at x0 x1 x2 x3 x4 x5 x6 y0 y1 y2 y3 y4 y5 y6
        have hwq : IntKind.i64.wrap (q : Int) = (q : Int) := IntWalk.i64_in _ (by omega)
        by_cases hlt2 : q < mem.length
        · obtain ⟨f, hf⟩ : ∃ f, mem[q]? = some f := ⟨_, List.getElem?_eq_getElem hlt2⟩
          obtain ⟨f2, hf2⟩ : ∃ f, mem2[q]? = some f := ⟨mem2[q]'(by have := H.out.2.2.2.2.2.2.1; omega), List.getElem?_eq_getElem _⟩
          have hff : f.m = f2.m := by
            have h1 := congrArg (fun l => l[q]?) H.out.2.2.2.2.1
            simpa [hf, hf2] using h1
          have hlt3 : q < mem2.length := by have := H.out.2.2.2.2.2.2.1; omega
          obtain ⟨g1, o1, h1, s0, s1, s2⟩ := PiecesAt.cell (RowsAt.below H.out.2.1.mem hi.bel) hf
          obtain ⟨g2, o2, h2, t0, t1, t2⟩ := PiecesAt.cell (RowsAt.below H.out.2.2.1.mem hi.bel) hf2
          have b1 := H.out.2.1.bytes f (List.mem_of_getElem? hf)
          have b2 := H.out.2.2.1.bytes f2 (List.mem_of_getElem? hf2)
          have hpb := HP.out.1 f2 (List.mem_of_getElem? hf2)
          obtain ⟨aa, pr, pp, pn, pc, bs⟩ := f
          obtain ⟨aa2, pr2, pp2, pn2, pc2, bs2⟩ := f2
          unfold PieceV.m at hff
          simp only [PieceM.mk.injEq] at hff
          obtain ⟨rfl, rfl, rfl⟩ := hff
          obtain rfl : bs.length = pn := b1.len
          obtain rfl : bs.length = pn2 := b2.len
          dsimp only at h1 h2 s0 s1 s2 t0 t1 t2 b1 b2 hpb
          have d1 := (b1.2 (by omega)).below hi.bel
          have d2 := (b2.2 (by omega)).below hi.bel
          rw [h1] at x4
          rw [h2] at y4
          have Hj := hid (And.intro hi (And.intro d1 d2))
          clear hi hf hf2 h1 h2 d1 d2 b1 b2 hpb
          go_upto_region 17 with fail
          have u1 := fun q => run_toString (P := Tryz.prog) (dst := 9) (w := wr.drewN q) _ _ _ un_bsR un_u8R un_strR (Hj.out.2.1.heap rfl)
          have u2 := fun q => run_toString (P := Tryz.prog) (dst := 9) (w := wr.drewN q) _ _ _ un_bsR un_u8R un_strR (Hj.out.2.2.heap rfl)
          go_quiet (fail)
          go_wp2_with fail
          exact ⟨⟨q + 1, by omega, by go_num, Hj.out.1.drewN _⟩, by simp [intOf]; omega⟩
        · have Hj := hid hi
          clear hi hwq
          go_wp2_with fail
          go_loopw [10] (fun i wr => ∃ k : Nat, k ≤ inits.length ∧ i = .int .i64 (k : Int) ∧ TwoT w wr w.heap.size (w.heap.size + 1) ⟨ph, img, er, sp, sc, seats, mp, mc, mem, np, nc, inits, entry⟩ ⟨ph, img, er, sp2, sc2, seats2, mp2, mc2, mem2, np2, nc2, inits, entry⟩) (fun i _ => inits.length - (intOf i).toNat)
          case atStart => exact ⟨0, Nat.zero_le _, rfl, Hj.out⟩
          case round =>
            clear x0 x1 x2 x3 x4 x5 x6 y0 y1 y2 y3 y4 y5 y6
            obtain ⟨n, hn, rfl, hi⟩ := hrel
            obtain ⟨x0, x1, x2, x3, x4, x5, x6⟩ := hi.one.atV
            obtain ⟨y0, y1, y2, y3, y4, y5, y6⟩ := hi.two.atV
            dsimp only at x0 x1 x2 x3 x4 x5 x6 y0 y1 y2 y3 y4 y5 y6
            have hwn : IntKind.i64.wrap (n : Int) = (n : Int) := IntWalk.i64_in _ (by omega)
            by_cases hlt4 : n < inits.length
            · obtain ⟨f, hf⟩ : ∃ f, inits[n]? = some f := ⟨_, List.getElem?_eq_getElem hlt4⟩
              obtain ⟨g1, o1, h1, s0, s1⟩ := InitsAt.cell (RowsAt.below H.out.2.1.inits hi.bel) hf
              obtain ⟨g2, o2, h2, t0, t1⟩ := InitsAt.cell (RowsAt.below H.out.2.2.1.inits hi.bel) hf
              dsimp only at h1 h2
              rw [h1] at x5
              rw [h2] at y5
              have Hk := hid hi
              clear hi hf h1 h2
              go_upto_region 22 with fail
              go_quiet (fail)
              go_wp2_with fail
              exact ⟨⟨n + 1, by omega, by go_num, Hk.out.drewN _⟩, by simp [intOf]; omega⟩
            · have Hk := hid hi
              clear hi
              go_wp2_with fail
              go_ret
              exact ⟨rfl, Hk.out.bel⟩
end Go.Proofs.YtfkpbgookilhjaaGreatDoor
