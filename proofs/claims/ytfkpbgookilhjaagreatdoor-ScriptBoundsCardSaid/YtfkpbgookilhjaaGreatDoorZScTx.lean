/- The reference's MuchTold (it answers, yes or no), and Same. -/
import Derived.Test.YtfkpbgookilhjaaGreatDoorZScTb
import Derived.Test.YtfkpbgookilhjaaGreatDoorZScU
import Derived.Deep.QuietTactic
namespace Go.Proofs.YtfkpbgookilhjaaGreatDoor
set_option linter.unusedSimpArgs false
set_option linter.unusedVariables false
open Go.RowKit

structure OneT (w W : World) (a : Nat) (A : ToldV) : Prop where
  one : ToldBox W a A.h
  bel : Below w.heap.size w W
theorem OneT.drewN {w W : World} {a : Nat} {A : ToldV} (h : OneT w W a A) (q : Nat) : OneT w (W.drewN q) a A := ⟨h.one, ⟨h.bel.os, h.bel.tape, h.bel.output, h.bel.size, h.bel.block⟩⟩

set_option maxHeartbeats 4000000 in
theorem rt_much (w : World) (t : ToldV) (h : ToldAt w t) : Calls Tryz.prog 15 #[.agg t.h.cells] w fun e w' => ∃ b, e = .returned (.bool b) ∧ Below w.heap.size w w' := by
  have hT : OneT w (w.alloc (.cells t.h.cells 49)) w.heap.size t := ⟨ToldBox.new w t.h, (Below.refl _ _).alloc (Nat.le_refl _) _⟩
  have hl1 : t.seats.length ≤ 9223372036854775807 := h.seats.len
  have hl2 : t.mem.length ≤ 9223372036854775807 := h.mem.len
  have H := hid (And.intro hT h)
  clear hT h
  show Calls Tryz.prog 15 #[.agg #[.int .i64 t.ph, .string (mkS t.img), .int .i64 t.er, .slice t.sp t.seats.length t.sc, .slice t.mp t.mem.length t.mc, .slice t.np t.inits.length t.nc, .int .u64 (t.entry : Int)]] w _
  obtain ⟨x0, x1, x2, x3, x4, x5, x6⟩ := H.out.1.one.atV
  go_enter Tryz.func15, Tryz.ntmps15
  go_wp2_with fail
  go_loopw [3, 4] (fun n i wr => ∃ (k : Nat) (z : Int), k ≤ t.seats.length ∧ i = .int .i64 (k : Int) ∧ n = .int .i64 z ∧ OneT w wr w.heap.size t) (fun _ i _ => t.seats.length - (intOf i).toNat)
  case atStart => exact ⟨0, _, Nat.zero_le _, rfl, rfl, H.out.1⟩
  case round =>
    clear x0 x1 x2 x3 x4 x5 x6
    obtain ⟨k, z, hk, rfl, rfl, hi⟩ := hrel
    obtain ⟨x0, x1, x2, x3, x4, x5, x6⟩ := hi.one.atV
    by_cases hlt : k < t.seats.length
    · obtain ⟨f, hf⟩ : ∃ f, t.seats[k]? = some f := ⟨_, List.getElem?_eq_getElem hlt⟩
      obtain ⟨g1, o1, h1, z1, -, z2⟩ := SeatsAt.cell (RowsAt.below H.out.2.seats hi.bel) hf
      rw [h1] at x3
      have hwk : IntKind.i64.wrap (k : Int) = (k : Int) := IntWalk.i64_in _ (by omega)
      have Hi := hid hi
      clear hi hf h1
      go_upto_region 5 with fail
      go_quiet (fail)
      go_wp2_with fail
      exact ⟨⟨k + 1, _, by omega, by go_num, rfl, Hi.out.drewN _⟩, by simp [intOf]; omega⟩
    · have Hi := hid hi
      clear hi
      go_wp2_with fail
      go_loopw [3, 5] (fun n i wr => ∃ (k : Nat) (z : Int), k ≤ t.mem.length ∧ i = .int .i64 (k : Int) ∧ n = .int .i64 z ∧ OneT w wr w.heap.size t) (fun _ i _ => t.mem.length - (intOf i).toNat)
      case atStart => exact ⟨0, _, Nat.zero_le _, rfl, rfl, Hi.out⟩
      case round =>
        clear x0 x1 x2 x3 x4 x5 x6
        obtain ⟨q, z2, hq, rfl, rfl, hi⟩ := hrel
        obtain ⟨x0, x1, x2, x3, x4, x5, x6⟩ := hi.one.atV
        by_cases hlt2 : q < t.mem.length
        · obtain ⟨s, hs⟩ : ∃ s, t.mem[q]? = some s := ⟨_, List.getElem?_eq_getElem hlt2⟩
          obtain ⟨g1, o1, h1, -, -, z3⟩ := PiecesAt.cell (RowsAt.below H.out.2.mem hi.bel) hs
          rw [h1] at x4
          have hwq : IntKind.i64.wrap (q : Int) = (q : Int) := IntWalk.i64_in _ (by omega)
          have Hj := hid hi
          clear hi hs h1
          go_wp2_with fail
          exact ⟨⟨q + 1, _, by omega, by go_num, rfl, Hj.out⟩, by simp [intOf]; omega⟩
        · have Hj := hid hi
          clear hi
          cases hd : decide ((200000 : Int) < z2) with
          | true =>
            go_wp2_with fail
            go_ret
            exact ⟨_, rfl, Hj.out.bel⟩
          | false =>
            go_wp2_with fail
            go_ret
            exact ⟨_, rfl, Hj.out.bel⟩

/-- Two told values in two blocks. -/
structure TwoT (w W : World) (a b : Nat) (A B : ToldV) : Prop where
  one : ToldBox W a A.h
  two : ToldBox W b B.h
  bel : Below w.heap.size w W
theorem TwoT.below {w W W' : World} {a b : Nat} {A B : ToldV} (h : TwoT w W a b A B) (hb : Below W.heap.size W W') : TwoT w W' a b A B := ⟨h.one.below hb, h.two.below hb, h.bel.trans (hb.mono h.bel.size)⟩
theorem TwoT.drewN {w W : World} {a b : Nat} {A B : ToldV} (h : TwoT w W a b A B) (q : Nat) : TwoT w (W.drewN q) a b A B := ⟨h.one, h.two, ⟨h.bel.os, h.bel.tape, h.bel.output, h.bel.size, h.bel.block⟩⟩
theorem TwoT.new (w : World) (A B : ToldV) : TwoT w ((w.alloc (.cells A.h.cells 49)).alloc (.cells B.h.cells 49)) w.heap.size (w.heap.size + 1) A B := by
  have e1 : (w.alloc (.cells A.h.cells 49)).heap.size = w.heap.size + 1 := by simp
  have b1 : Below w.heap.size w (w.alloc (.cells A.h.cells 49)) := (Below.refl _ _).alloc (Nat.le_refl _) _
  have r1 := heap_alloc_new w (.cells A.h.cells 49)
  generalize w.alloc (.cells A.h.cells 49) = w1 at e1 b1 r1 ⊢
  have b2 : Below w1.heap.size w1 (w1.alloc (.cells B.h.cells 49)) := (Below.refl _ _).alloc (Nat.le_refl _) _
  have r2 := heap_alloc_new w1 (.cells B.h.cells 49)
  rw [e1] at r2
  exact ⟨(b2.block _ (by omega)).trans r1, r2, b1.trans (b2.mono (by omega))⟩
end Go.Proofs.YtfkpbgookilhjaaGreatDoor
