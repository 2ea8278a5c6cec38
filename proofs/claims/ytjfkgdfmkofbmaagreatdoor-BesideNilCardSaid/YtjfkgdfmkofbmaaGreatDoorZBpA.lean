/- A piece of memory, in cells: where it ends; which pieces may be. -/
import Derived.Test.YtjfkgdfmkofbmaaGreatDoorZBdA
import Derived.Test.YtjfkgdfmkofbmaaGreatDoorZScO
import Derived.Test.YtjfkgdfmkofbmaaGreatDoorZAppend
import Derived.Deep.QuietTactic
import Derived.Test.YtjfkgdfmkofbmaaGreatDoorProg
import Derived.KernelRfl
import GoSem.Claim
import Derived.WalkKit
namespace Go.Proofs.YtjfkgdfmkofbmaaGreatDoor
set_option linter.unusedSimpArgs false
set_option linter.unusedVariables false
open Go.RowKit

structure PzV where
  at_ : Nat
  prot : Int
  p : Option Addr
  cap : Nat
  bytes : List UInt8
def PzV.cells (x : PzV) : List Value := [.int .u64 (x.at_ : Int), .int .i64 x.prot, .slice x.p x.bytes.length x.cap]
def PzV.m (x : PzV) : Pz := ⟨x.at_, x.prot, x.bytes⟩
theorem pzLen (x : PzV) : x.cells.length = 3 := rfl
/-- The slice v reads as the pieces L. -/
structure PzsAt (W : World) (v : Value) (L : List PzV) : Prop where
  rows : RowsAt PzV.cells 3 W v L
  bytes : ∀ x ∈ L, BS W (.slice x.p x.bytes.length x.cap) x.bytes
  ats : ∀ x ∈ L, x.at_ < 2 ^ 64
theorem PzsAt.below {w w' : World} {v : Value} {L : List PzV} (h : PzsAt w v L) (hb : Below w.heap.size w w') : PzsAt w' v L :=
  ⟨RowsAt.below h.rows hb, fun x hx => (h.bytes x hx).below hb, h.ats⟩
theorem PzsAt.nil (w : World) : PzsAt w (.slice none 0 0) [] := ⟨RowsAt.nil w, by simp, by simp⟩
theorem PzsAt.cell {w : World} {a : Option Addr} {n cap : Nat} {L : List PzV} (h : PzsAt w (.slice a n cap) L) {i : Nat} {x : PzV} (hx : L[i]? = some x) :
    ∃ g off, a = some ⟨g, off, none⟩ ∧ w.cell? ⟨g, off + i * 3, none⟩ = some (.int .u64 (x.at_ : Int)) ∧ w.cell? ⟨g, off + i * 3 + 1, none⟩ = some (.int .i64 x.prot) ∧ w.cell? ⟨g, off + i * 3 + 2, none⟩ = some (.slice x.p x.bytes.length x.cap) := by
  obtain ⟨g, off, rfl, hc⟩ := RowsAt.at h.rows hx
  exact ⟨g, off, rfl, by simpa using hc 0 _ rfl, hc 1 _ rfl, hc 2 _ rfl⟩
theorem PzsAt.short {w : World} {v : Value} {L : List PzV} (h : PzsAt w v L) {x : PzV} (hx : x ∈ L) : x.bytes.length ≤ 140737488355328 := by
  obtain ⟨p, cap, _, _, h2, _⟩ := h.bytes x hx; exact h2.2

theorem bd_end (w : World) (at_ : Nat) (prot : Int) (p : Option Addr) (n cap : Nat) (h : at_ + n < 2 ^ 64) :
    Calls Tryz.prog 36 #[.agg #[.int .u64 (at_ : Int), .int .i64 prot, .slice p n cap]] w fun e w' => e = .returned (.int .u64 ((at_ + n : Nat) : Int)) ∧ Below w.heap.size w w' := by
  have hw1 : IntKind.u64.wrap (n : Int) = (n : Int) := IntWalk.u64_in _ (by omega)
  have hw2 : IntKind.u64.wrap ((at_ : Int) + (n : Int)) = ((at_ + n : Nat) : Int) := (IntWalk.u64_in _ (by omega)).trans (by omega)
  have H := hid ((Below.refl w.heap.size w).alloc (Nat.le_refl _) (.cells #[.int .u64 (at_ : Int), .int .i64 prot, .slice p n cap] 74))
  go_enter Tryz.func36, Tryz.ntmps36
  go_wp2_with fail
  go_ret
  exact ⟨rfl, H.out⟩

theorem mayFrom_cons (last : Nat) (p : Pz) (l : List Pz) : mayFrom last (p :: l) = (decide (0 < p.bytes.length) && decide (1 ≤ p.prot) && decide (p.prot ≤ 7) && decide (last ≤ p.at_) && decide (p.at_ ≤ MAXA) && decide (p.end_ ≤ MAXA) && mayFrom p.end_ l) := rfl
theorem dec_i {a b : Int} (h : a < b) : decide (a < b) = true := decide_eq_true h
theorem dec_n {a b : Int} (h : ¬ a < b) : decide (a < b) = false := decide_eq_false h

set_option maxHeartbeats 1000000 in
theorem bd_may (w : World) (v : Value) (L : List PzV) (h : PzsAt w v L) :
    Calls Tryz.prog 20 #[v] w fun e w' => e = .returned (.bool (mayZ (L.map PzV.m))) ∧ Below w.heap.size w w' := by
  obtain ⟨a, cap, rfl⟩ := RowsAt.form h.rows
  have hLm : L.length ≤ 9223372036854775807 := RowsAt.len h.rows
  have H := hid h
  obtain ⟨R, hR⟩ : ∃ R, R = mayZ (L.map PzV.m) := ⟨_, rfl⟩
  rw [← hR]
  have HR := hid hR
  clear h hR
  go_enter Tryz.func20, Tryz.ntmps20
  go_wp2_with fail
  go_loopw [3, 8] (fun vl vi wr => ∃ k last : Nat, k ≤ L.length ∧ last < 2 ^ 63 ∧ vl = .int .u64 (last : Int) ∧ vi = .int .i64 (k : Int) ∧ mayFrom last ((L.drop k).map PzV.m) = R ∧ Below w.heap.size w wr) (fun _ vi _ => L.length - (intOf vi).toNat)
  case atStart => exact ⟨0, 0, Nat.zero_le _, by decide, rfl, rfl, by rw [HR.out]; rfl, Below.refl _ _⟩
  case round =>
    obtain ⟨k, last, hk, hlast, rfl, rfl, hm, hb⟩ := hrel
    by_cases hlt : k < L.length
    · obtain ⟨x, hx⟩ : ∃ x, L[k]? = some x := ⟨_, List.getElem?_eq_getElem hlt⟩
      have hxm := List.mem_of_getElem? hx
      obtain ⟨g, off, rfl, y0, y1, y2⟩ := (H.out.below hb).cell hx
      have hsh := H.out.short hxm
      have hat := H.out.ats x hxm
      have hd : L.drop k = x :: L.drop (k + 1) := by
        rw [List.drop_eq_getElem_cons hlt]
        congr 1
        exact (List.getElem?_eq_some_iff.1 hx).2
      rw [hd, List.map_cons, mayFrom_cons] at hm
      simp only [PzV.m, Pz.end_] at hm
      obtain ⟨xa, xp, xs, xc, xb⟩ := x
      dsimp only at y0 y1 y2 hsh hat hm
      obtain ⟨n, hn⟩ : ∃ n, n = xb.length := ⟨_, rfl⟩
      have hm : (decide (0 < n) && decide (1 ≤ xp) && decide (xp ≤ 7) && decide (last ≤ xa) && decide (xa ≤ MAXA) && decide (xa + n ≤ MAXA) && mayFrom (xa + n) ((L.drop (k + 1)).map PzV.m)) = R := by rw [hn]; exact hm
      rw [← hn] at y2 hsh
      have hwk : IntKind.i64.wrap ((k : Int) + 1) = ((k + 1 : Nat) : Int) := (IntWalk.i64_in _ (by omega)).trans (by omega)
      have hbx := hid (hb.alloc hb.size (.cells #[.int .u64 (xa : Int), .int .i64 xp, .slice xs n xc] 74))
      have Hm := hid hm
      clear hx hxm hd hm hn
      by_cases c1 : n = 0
      · have e1 : ((n : Int) == 0) = true := by rw [c1]; rfl
        have hf : R = false := by rw [← Hm.out, c1]; rfl
        have Hf := hid hf
        clear hf
        clear c1
        go_wp2_with fail
        go_ret
        exact ⟨by rw [Hf.out]; rfl, hbx.out⟩
      · have e1 : ((n : Int) == 0) = false := by rw [beq_eq_false_iff_ne]; omega
        have n1 : decide (0 < n) = true := decide_eq_true (by omega)
        have Hn := hid n1
        clear n1 c1
        by_cases c2 : xp < 1
        · have e2 := dec_i c2
          have hf : R = false := by rw [← Hm.out, decide_eq_false (show ¬ 1 ≤ xp by omega)]; simp
          have Hf := hid hf
          clear hf
          clear c2
          go_wp2_with fail
          go_ret
          exact ⟨by rw [Hf.out]; rfl, hbx.out⟩
        · have e2 := dec_n c2
          by_cases c3 : 7 < xp
          · have e3 := dec_i c3
            have hf : R = false := by rw [← Hm.out, decide_eq_false (show ¬ xp ≤ 7 by omega)]; simp
            have Hf := hid hf
            clear hf
            clear c2 c3
            go_wp2_with fail
            go_ret
            exact ⟨by rw [Hf.out]; rfl, hbx.out⟩
          · have e3 := dec_n c3
            by_cases c4 : xa < last
            · have e4 : decide (xa < last) = true := decide_eq_true (by omega)
              have hf : R = false := by rw [← Hm.out, decide_eq_false (show ¬ last ≤ xa by omega)]; simp
              have Hf := hid hf
              clear hf
              clear c2 c3 c4
              go_wp2_with fail
              go_ret
              exact ⟨by rw [Hf.out]; rfl, hbx.out⟩
            · have e4 : decide (xa < last) = false := decide_eq_false (by omega)
              by_cases c5 : 140737488355328 < xa
              · have e5 : decide (140737488355328 < xa) = true := decide_eq_true (by omega)
                have e5i : decide ((140737488355328 : Int) < (xa : Int)) = true := decide_eq_true (by omega)
                have hf : R = false := by rw [← Hm.out, decide_eq_false (show ¬ xa ≤ MAXA by unfold MAXA; omega)]; simp
                have Hf := hid hf
                clear hf
                clear c2 c3 c4 c5
                go_wp2_with fail
                go_ret
                exact ⟨by rw [Hf.out]; rfl, hbx.out⟩
              · have e5 : decide (140737488355328 < xa) = false := decide_eq_false (by omega)
                have e5i : decide ((140737488355328 : Int) < (xa : Int)) = false := decide_eq_false (by omega)
                have HC := hid (And.intro c2 (And.intro c3 (And.intro c4 c5)))
                clear c2 c3 c4 c5
                go_wp2_with fail
                refine (bd_end _ xa xp xs n xc (by have := HC.out.2.2.2; omega)).mono ?_
                rintro e w3 ⟨rfl, hb3⟩
                have hbz := hbx.out.trans (hb3.mono hbx.out.size)
                have hc3 := hb3.block wr.heap.size (by simp)
                have hc3 := hc3.trans (heap_alloc_new wr _)
                have z0 := cell_of_row w3 _ 0 _ _ _ hc3
                have z1 := cell_of_row w3 _ 1 _ _ _ hc3
                have z2 := cell_of_row w3 _ 2 _ _ _ hc3
                have Hz := hid hbz
                clear hb3 hbz hc3
                by_cases c6 : 140737488355328 < xa + n
                · have e6 : decide (140737488355328 < xa + n) = true := decide_eq_true (by omega)
                  have e6i : decide ((140737488355328 : Int) < (xa : Int) + (n : Int)) = true := decide_eq_true (by omega)
                  have hf : R = false := by rw [← Hm.out, decide_eq_false (show ¬ xa + n ≤ MAXA by unfold MAXA; omega)]; simp
                  have Hf := hid hf
                  clear hf c6
                  go_wp2_with fail
                  go_ret
                  exact ⟨by rw [Hf.out]; rfl, Hz.out⟩
                · have e6 : decide (140737488355328 < xa + n) = false := decide_eq_false (by omega)
                  have e6i : decide ((140737488355328 : Int) < (xa : Int) + (n : Int)) = false := decide_eq_false (by omega)
                  have HC6 := hid c6
                  clear c6
                  go_wp2_with fail
                  refine (bd_end _ xa xp xs n xc (by have := HC.out.2.2.2; omega)).mono ?_
                  rintro e w4 ⟨rfl, hb4⟩
                  have Hz4 := hid (Hz.out.trans (hb4.mono Hz.out.size))
                  clear hb4 z0 z1 z2
                  go_wp2_with fail
                  refine ⟨⟨k + 1, xa + n, by omega, by have := HC6.out; omega, rfl, by go_num, ?_, Hz4.out⟩, by simp [intOf]; omega⟩
                  rw [← Hm.out, Hn.out, decide_eq_true (show 1 ≤ xp by have := HC.out.1; omega), decide_eq_true (show xp ≤ 7 by have := HC.out.2.1; omega), decide_eq_true (show last ≤ xa by have := HC.out.2.2.1; omega), decide_eq_true (show xa ≤ MAXA by have := HC.out.2.2.2; unfold MAXA; omega), decide_eq_true (show xa + n ≤ MAXA by have := HC6.out; unfold MAXA; omega)]
                  rfl
    · have hf : R = true := by rw [← hm, List.drop_eq_nil_of_le (by omega)]; rfl
      have Hf := hid hf
      clear hf
      have Hb := hid hb
      clear hb hm
      go_wp2_with fail
      go_ret
      exact ⟨by rw [Hf.out]; rfl, Hb.out⟩
end Go.Proofs.YtjfkgdfmkofbmaaGreatDoor
