/- The reference's Much: it answers, yes or no. -/
import Derived.Test.YtfkpbgookilhjaaGreatDoorScT
import Derived.Deep.QuietTactic
namespace Go.Proofs.YtfkpbgookilhjaaGreatDoor
set_option linter.unusedSimpArgs false
set_option linter.unusedVariables false
open Go.RowKit

structure OneJ (w W : World) (a : Nat) (A : JobV) : Prop where
  one : JobBox W a A
  bel : Below w.heap.size w W
theorem OneJ.drewN {w W : World} {a : Nat} {A : JobV} (h : OneJ w W a A) (q : Nat) : OneJ w (W.drewN q) a A := ⟨h.one, ⟨h.bel.os, h.bel.tape, h.bel.output, h.bel.size, h.bel.block⟩⟩

set_option maxHeartbeats 4000000 in
theorem rf_much (w : World) (j : JobV) (h : JobAt w j) : Calls Tryz.prog 6 #[.agg j.cells] w fun e w' => ∃ b, e = .returned (.bool b) ∧ Below w.heap.size w w' := by
  have hT : OneJ w (w.alloc (.cells j.cells 27)) w.heap.size j := ⟨JobBox.new w j, (Below.refl _ _).alloc (Nat.le_refl _) _⟩
  have hl1 : j.fs.length ≤ 9223372036854775807 := h.files.len
  have hl2 : j.ins.length ≤ 9223372036854775807 := h.ins.len
  have H := hid (And.intro hT h)
  clear hT h
  show Calls Tryz.prog 6 #[.agg #[.slice j.fp j.fs.length j.fc, .string (mkS j.main), .slice j.ip j.ins.length j.ic, .int .i64 j.arch, .int .u64 (j.base : Int), .bool j.flat]] w _
  obtain ⟨x0, x1, x2, x3, x4, x5⟩ := H.out.1.one.at
  go_enter Tryz.func6, Tryz.ntmps6
  go_wp2_with fail
  go_loopw [3, 4] (fun n t wr => ∃ (k : Nat) (z : Int), k ≤ j.fs.length ∧ t = .int .i64 (k : Int) ∧ n = .int .i64 z ∧ OneJ w wr w.heap.size j) (fun _ t _ => j.fs.length - (intOf t).toNat)
  case atStart => exact ⟨0, _, Nat.zero_le _, rfl, rfl, H.out.1⟩
  case round =>
    clear x0 x1 x2 x3 x4 x5
    obtain ⟨k, z, hk, rfl, rfl, hi⟩ := hrel
    obtain ⟨x0, x1, x2, x3, x4, x5⟩ := hi.one.at
    by_cases hlt : k < j.fs.length
    · obtain ⟨f, hf⟩ : ∃ f, j.fs[k]? = some f := ⟨_, List.getElem?_eq_getElem hlt⟩
      obtain ⟨g1, o1, h1, z1, z2⟩ := FilesAt.cell (RowsAt.below H.out.2.files hi.bel) hf
      rw [h1] at x0
      have hwk : IntKind.i64.wrap (k : Int) = (k : Int) := IntWalk.i64_in _ (by omega)
      have Hi := hid hi
      clear hi hf h1
      go_upto_region 5 with fail
      go_quiet (fail)
      go_wp2_with fail
      exact ⟨⟨k + 1, _, by omega, by go_num, rfl, Hi.out.drewN _⟩, by simp [intOf]; omega⟩
    · have Hi := hid hi
      clear hi
      go_wp2_with fail
      go_loopw [3, 5] (fun n t wr => ∃ (k : Nat) (z : Int), k ≤ j.ins.length ∧ t = .int .i64 (k : Int) ∧ n = .int .i64 z ∧ OneJ w wr w.heap.size j) (fun _ t _ => j.ins.length - (intOf t).toNat)
      case atStart => exact ⟨0, _, Nat.zero_le _, rfl, rfl, Hi.out⟩
      case round =>
        clear x0 x1 x2 x3 x4 x5
        obtain ⟨q, z2, hq, rfl, rfl, hi⟩ := hrel
        obtain ⟨x0, x1, x2, x3, x4, x5⟩ := hi.one.at
        by_cases hlt2 : q < j.ins.length
        · obtain ⟨s, hs⟩ : ∃ s, j.ins[q]? = some s := ⟨_, List.getElem?_eq_getElem hlt2⟩
          obtain ⟨g1, o1, h1, z1⟩ := StrsAt.cell (RowsAt.below H.out.2.ins hi.bel) hs
          rw [h1] at x2
          have hwq : IntKind.i64.wrap (q : Int) = (q : Int) := IntWalk.i64_in _ (by omega)
          have Hj := hid hi
          clear hi hs h1
          go_wp2_with fail
          exact ⟨⟨q + 1, _, by omega, by go_num, rfl, Hj.out⟩, by simp [intOf]; omega⟩
        · have Hj := hid hi
          clear hi
          cases hd : decide ((200000 : Int) < z2) with
          | true =>
            go_wp2_with fail
            go_ret
            exact ⟨_, rfl, Hj.out.bel⟩
          | false =>
            cases hd2 : decide ((100 : Int) < (j.fs.length : Int)) with
            | true =>
              have hd3 : decide (100 < j.fs.length) = true := by rw [decide_eq_true_eq] at *; omega
              go_wp2_with fail
              go_ret
              exact ⟨_, rfl, Hj.out.bel⟩
            | false =>
              have hd3 : decide (100 < j.fs.length) = false := by rw [decide_eq_false_iff_not] at *; omega
              go_wp2_with fail
              go_ret
              exact ⟨_, rfl, Hj.out.bel⟩
end Go.Proofs.YtfkpbgookilhjaaGreatDoor
