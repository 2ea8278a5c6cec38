/- Whether it may be told: the program, whole. -/
import Derived.Test.YtfkpbgookilhjaaGreatDoorZScTg
import Derived.Test.YtfkpbgookilhjaaGreatDoorZScTo
import Derived.Test.YtfkpbgookilhjaaGreatDoorZScTl
import Derived.Test.YtfkpbgookilhjaaGreatDoorZScTf
import Derived.Test.YtfkpbgookilhjaaGreatDoorZScTx
namespace Go.Proofs.YtfkpbgookilhjaaGreatDoor
set_option linter.unusedSimpArgs false
set_option linter.unusedVariables false
open Go.RowKit

/-- How many there are, as Go adds them up. -/
def Small (t : ToldV) : Prop := t.seats.length + t.mem.length + t.inits.length ≤ 9223372036854775807

theorem mayFH_m (t : ToldV) : mayFH t.h = mayFault t.m := by
  unfold mayFH bareH mayFault ToldV.h ToldV.m
  simp only [List.length_map]

theorem mayT_eq {w : World} {t : ToldV} (h : ToldAt w t) : mayT t.m = if t.er = 0 then mayLV t else mayFault t.m := by
  unfold mayT
  by_cases he : t.er = 0
  · rw [if_pos he, if_pos (show t.m.err = 0 from he), mayLV_m h]
  · rw [if_neg he, if_neg (show ¬ t.m.err = 0 from he)]

theorem tl_may (w : World) (t : ToldV) (h : ToldAt w t) (hs : Small t) : Calls Tryz.prog 14 #[.agg t.h.cells] w fun e w' => e = .returned (.bool (mayT t.m)) ∧ Below w.heap.size w w' := by
  rw [mayT_eq h]
  by_cases he : t.er = 0
  · rw [if_pos he]; exact tl_may_linked w t h he
  · rw [if_neg he, ← mayFH_m]; exact tl_may_fault w t.h hs he
end Go.Proofs.YtfkpbgookilhjaaGreatDoor

namespace Go.Proofs.YtfkpbgookilhjaaGreatDoor
set_option linter.unusedSimpArgs false
set_option linter.unusedVariables false
open Go.RowKit

theorem rt_may (w : World) (t : ToldV) (h : ToldAt w t) : Calls Tryz.prog 17 #[.agg t.h.cells] w fun e w' => e = .returned (.bool (mayT t.m)) ∧ Below w.heap.size w w' := by
  rw [mayT_eq h]
  by_cases he : t.er = 0
  · rw [if_pos he]; exact rt_may_linked w t h he
  · rw [if_neg he]; exact rt_may_fault w t he

theorem tl_bytes_no (w : World) (t : ToldV) (h : ToldAt w t) (hs : Small t) (hm : mayT t.m = false) : Calls Tryz.prog 16 #[.agg t.h.cells] w fun e w' => e = .returned (.tuple #[.slice none 0 0, .int .i64 2]) ∧ Below w.heap.size w w' := by
  have hb0 := (Below.refl w.heap.size w).alloc (Nat.le_refl _) (.cells t.h.cells 49)
  have HM := hid (fun W (hb : Below w.heap.size w W) => show Calls Tryz.prog 14 #[.agg #[.int .i64 t.ph, .string (mkS t.img), .int .i64 t.er, .slice t.sp t.seats.length t.sc, .slice t.mp t.mem.length t.mc, .slice t.np t.inits.length t.nc, .int .u64 (t.entry : Int)]] W fun e w' => e = .returned (.bool false) ∧ Below W.heap.size W w' from by have := tl_may W t (h.below hb) hs; rwa [hm] at this)
  have hx1 : ToldBox (w.alloc (.cells t.h.cells 49)) w.heap.size t.h := ToldBox.new w t.h
  have H0 := hid hb0
  obtain ⟨x0, x1, x2, x3, x4, x5, x6⟩ := hx1.atV
  clear hb0 h hm hs hx1
  show Calls Tryz.prog 16 #[.agg #[.int .i64 t.ph, .string (mkS t.img), .int .i64 t.er, .slice t.sp t.seats.length t.sc, .slice t.mp t.mem.length t.mc, .slice t.np t.inits.length t.nc, .int .u64 (t.entry : Int)]] w _
  go_enter Tryz.func16, Tryz.ntmps16
  go_wp2_with fail
  refine (HM.out _ H0.out).mono ?_
  rintro e w1 ⟨rfl, hb1⟩
  have H1 := hid (H0.out.trans (hb1.mono (by simp)))
  clear hb1 x0 x1 x2 x3 x4 x5 x6
  go_wp2_with fail
  refine bodyPost_ret (v := .tuple #[.slice none 0 0, .int .i64 2]) (by simp [results, Tryz.results16, go_sem]) rfl ?_
  exact ⟨rfl, H1.out⟩

theorem tl_bytes_yes (w : World) (t : ToldV) (h : ToldAt w t) (hs : Small t) (hm : mayT t.m = true) : Calls Tryz.prog 16 #[.agg t.h.cells] w fun e w' => ∃ v, e = .returned (.tuple #[v, .int .i64 0]) ∧ OB w' w.heap.size 5 v t.m.enc ∧ Below w.heap.size w w' := by
  rw [mayT_eq h] at hm
  by_cases he : t.er = 0
  · rw [if_pos he] at hm; exact tl_bytes_linked w t h he hm
  · rw [if_neg he, ← mayFH_m] at hm
    have henc : t.m.enc = faultB t.ph t.er ++ nmB t.img := by unfold ToldM.enc ToldV.m; dsimp only; rw [if_neg he]
    rw [henc]
    exact tl_bytes_fault w t.h hs he hm
theorem rf_told (w : World) (t : ToldV) (h : ToldAt w t) (hm : mayT t.m = true) : Calls Tryz.prog 19 #[.agg t.h.cells] w fun e w' => ∃ v, e = .returned v ∧ OB w' w.heap.size 5 v t.m.enc ∧ Below w.heap.size w w' := by
  rw [mayT_eq h] at hm
  by_cases he : t.er = 0
  · rw [if_pos he] at hm; exact rf_told_linked w t h he hm
  · rw [if_neg he] at hm
    exact rf_told_fault w t he ((mayFault_iff t).1 hm).2.2.2.2.2.2.2.2

theorem enc_short {w : World} {t : ToldV} (h : ToldAt w t) (hm : mayT t.m = true) : t.m.enc.length ≤ 140737488355328 := by
  rw [mayT_eq h] at hm
  by_cases he : t.er = 0
  · rw [if_pos he] at hm
    obtain ⟨-, -, -, -, -, hall, -, -, -, henc⟩ := told_bounds h he hm
    rw [henc]
    simp only [List.length_append, lowB_length, List.length_cons, List.length_nil]
    omega
  · rw [if_neg he] at hm
    have himg := ((mayFault_iff t).1 hm).2.2.2.2.2.2.2.2
    have henc : t.m.enc = faultB t.ph t.er ++ nmB t.img := by unfold ToldM.enc ToldV.m; dsimp only; rw [if_neg he]
    rw [henc, List.length_append, nmB_length]
    unfold faultB
    simp only [List.length_cons, List.length_nil]
    omega

theorem tl_of (w : World) (p : Option Addr) (cap : Nat) (t : ToldV) (h : ToldAt w t) (hm : mayT t.m = true) (hb : BS w (.slice p t.m.enc.length cap) t.m.enc) :
    Calls Tryz.prog 18 #[.slice p t.m.enc.length cap] w fun e w' => ∃ V : ToldV, e = .returned (.tuple #[.agg V.h.cells, .int .i64 0]) ∧ V.m = t.m ∧ ToldAt w' V ∧ Below w.heap.size w w' := by
  rw [mayT_eq h] at hm
  by_cases he : t.er = 0
  · rw [if_pos he, mayLV_m h] at hm
    refine tl_of_linked w p cap t.m he hm ?_ ?_ h.begins h.entry hb
    · intro s hs; obtain ⟨x, hx, rfl⟩ := List.mem_map.1 hs; exact h.slides x hx
    · intro s hs; obtain ⟨x, hx, rfl⟩ := List.mem_map.1 hs; exact h.ats x hx
  · rw [if_neg he] at hm
    have henc : t.m.enc = faultB t.ph t.er ++ nmB t.img := by unfold ToldM.enc ToldV.m; dsimp only; rw [if_neg he]
    obtain ⟨z1, z2, z3, z4, z5, z6, z7, z8, z9⟩ := (mayFault_iff t).1 hm
    obtain ⟨P, hP⟩ : ∃ P : Nat, t.ph = P := ⟨t.ph.toNat, by omega⟩
    obtain ⟨E, hE⟩ : ∃ E : Nat, t.er = E := ⟨t.er.toNat, by omega⟩
    rw [henc, hP, hE] at hb ⊢
    refine (tl_of_fault w p cap P E t.img (by omega) (by omega) (by omega) z9 hb).mono ?_
    rintro e w' ⟨rfl, hb'⟩
    refine ⟨⟨(P : Int), t.img, (E : Int), none, 0, [], none, 0, [], none, 0, [], 0⟩, rfl, ?_, ?_, hb'⟩
    · unfold ToldV.m
      dsimp only
      rw [List.length_eq_zero_iff.1 z1, List.length_eq_zero_iff.1 z2, List.length_eq_zero_iff.1 z3, hP, hE, z4]
    · exact ⟨RowsAt.nil _, by simp, by simp, RowsAt.nil _, by simp, by simp, RowsAt.nil _, by simp, by simp⟩

theorem rt_same' (w : World) (A B : ToldV) (hA : ToldAt w A) (hB : ToldAt w B) (hAB : A.m = B.m) (hm : mayT B.m = true) : Calls Tryz.prog 20 #[.agg A.h.cells, .agg B.h.cells] w fun e w' => e = .returned (.bool true) ∧ Below w.heap.size w w' := by
  rw [mayT_eq hB] at hm
  by_cases he : B.er = 0
  · rw [if_pos he] at hm
    obtain ⟨-, -, h1, h2, h3, -, hd, hp, -, -⟩ := told_bounds hB he hm
    exact rt_same w A B hA hB hAB h1 h2 h3 (fun s hs => by have := (not_badP (hp s hs).2.2).2.2; omega) (fun s hs => by have := (not_badS (hd s hs).2.2).2.1; omega)
  · rw [if_neg he] at hm
    obtain ⟨z1, z2, z3, z4, z5, z6, z7, z8, z9⟩ := (mayFault_iff B).1 hm
    exact rt_same w A B hA hB hAB (by omega) (by omega) (by omega) (fun s hs => by rw [List.length_eq_zero_iff.1 z2] at hs; cases hs) (fun s hs => by rw [List.length_eq_zero_iff.1 z1] at hs; cases hs)
end Go.Proofs.YtfkpbgookilhjaaGreatDoor
