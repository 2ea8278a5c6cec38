/- The document's comparison of pieces: where all are the same. -/
import Derived.Test.YtjfkgdfmkofbmaaGreatDoorZBpA
import Derived.Deep.QuietTactic
import Derived.Deep.DeepCutAuto
namespace Go.Proofs.YtjfkgdfmkofbmaaGreatDoor
set_option linter.unusedSimpArgs false
set_option linter.unusedVariables false
open Go.RowKit

theorem un_bsQ : Tryz.prog.underlying 72 = some (.slice 5) := Tryz.underlying72
theorem un_u8Q : Tryz.prog.underlying 5 = some (.int .u8) := Tryz.underlying5
theorem un_strQ : Tryz.prog.underlying 9 = some .string := Tryz.underlying9
theorem drewN_belowB {B : Nat} {w w' : World} (h : Below B w w') (q : Nat) : Below B w (w'.drewN q) := ⟨h.os, h.tape, h.output, h.size, h.block⟩

set_option maxHeartbeats 2000000 in
set_option maxRecDepth 8000 in
theorem br_same (w : World) (va vb : Value) (A B : List PzV) (hA : PzsAt w va A) (hB : PzsAt w vb B) (hm : A.map PzV.m = B.map PzV.m) (hlen : A.length ≤ 1000000) :
    Calls Tryz.prog 12 #[va, vb] w fun e w' => e = .returned (.bool true) ∧ Below w.heap.size w w' := by
  obtain ⟨pa, ca, rfl⟩ := RowsAt.form hA.rows
  obtain ⟨pb, cb, rfl⟩ := RowsAt.form hB.rows
  have hl : A.length = B.length := by have := congrArg List.length hm; simpa using this
  obtain ⟨n, hn⟩ : ∃ n, n = A.length := ⟨_, rfl⟩
  have hnb : n = B.length := hn.trans hl
  rw [← hn] at hA hlen
  rw [← hnb] at hB
  rw [← hn, ← hnb]
  have hne : ((n : Int) != (n : Int)) = false := by simp
  have H := hid (And.intro hA (And.intro hB (And.intro hm (And.intro hn hnb))))
  clear hA hB hm hn hnb hl
  go_enter Tryz.func12, Tryz.ntmps12
  go_wp2_with fail
  go_loopw [5] (fun vi wr => ∃ k : Nat, k ≤ n ∧ vi = .int .i64 (k : Int) ∧ Below w.heap.size w wr) (fun vi _ => n - (intOf vi).toNat)
  case atStart => exact ⟨0, Nat.zero_le _, rfl, Below.refl _ _⟩
  case round =>
    obtain ⟨k, hk, rfl, hw⟩ := hrel
    by_cases hlt : k < n
    · obtain ⟨x, hx⟩ : ∃ x, A[k]? = some x := ⟨_, List.getElem?_eq_getElem (by rw [← H.out.2.2.2.1]; exact hlt)⟩
      obtain ⟨y, hy⟩ : ∃ y, B[k]? = some y := ⟨_, List.getElem?_eq_getElem (by rw [← H.out.2.2.2.2]; exact hlt)⟩
      have hxy : x.m = y.m := by
        have h1 : (A.map PzV.m)[k]? = some x.m := by rw [List.getElem?_map, hx]; rfl
        have h2 : (B.map PzV.m)[k]? = some y.m := by rw [List.getElem?_map, hy]; rfl
        rw [H.out.2.2.1, h2] at h1
        exact (Option.some.inj h1).symm
      have hAt := H.out.1.below hw
      have hBt := H.out.2.1.below hw
      obtain ⟨ga, oa, rfl, a0, a1, a2⟩ := hAt.cell hx
      obtain ⟨gb, ob, rfl, b0, b1, b2⟩ := hBt.cell hy
      have hbx := hAt.bytes x (List.mem_of_getElem? hx)
      have hby := hBt.bytes y (List.mem_of_getElem? hy)
      obtain ⟨xa, xp, xs, xc, xb⟩ := x
      obtain ⟨ya, yp, ys, yc, yb⟩ := y
      simp only [PzV.m, Pz.mk.injEq] at hxy
      obtain ⟨rfl, rfl, rfl⟩ := hxy
      dsimp only at a0 a1 a2 b0 b1 b2 hbx hby
      obtain ⟨m, hm⟩ : ∃ m, m = xb.length := ⟨_, rfl⟩
      rw [← hm] at a2 b2 hbx hby
      have u1 := fun q => run_toString (P := Tryz.prog) (dst := 9) (w := wr.drewN q) _ _ _ un_bsQ un_u8Q un_strQ (hbx.heap rfl)
      have u2 := fun q => run_toString (P := Tryz.prog) (dst := 9) (w := wr.drewN q) _ _ _ un_bsQ un_u8Q un_strQ (hby.heap rfl)
      have i1 : (0 : Int) ≤ (k : Int) := by omega
      have i2 : (k : Int) < (n : Int) := by omega
      have hwk : IntKind.i64.wrap ((k : Int) + 1) = ((k + 1 : Nat) : Int) := (IntWalk.i64_in _ (by omega)).trans (by omega)
      have Hw := hid hw
      clear hx hy hAt hBt hbx hby hm hw hlt hk
      go_upto_region 6 with fail
      go_quiet (fail)
      go_wp2_with fail
      exact ⟨⟨k + 1, by omega, by go_num, drewN_belowB Hw.out _⟩, by simp [intOf]; omega⟩
    · have Hw := hid hw
      have hd : decide ((k : Int) < (n : Int)) = false := decide_eq_false (by omega)
      clear hw hk
      go_wp2_with fail
      go_ret
      exact ⟨rfl, Hw.out⟩
end Go.Proofs.YtjfkgdfmkofbmaaGreatDoor
