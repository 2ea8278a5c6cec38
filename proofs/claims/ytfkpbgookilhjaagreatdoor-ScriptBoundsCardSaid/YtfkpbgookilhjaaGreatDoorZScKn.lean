/- The chapter's row. -/
import Derived.Test.YtfkpbgookilhjaaGreatDoorZScZ
import Derived.Deep.RegionHeld3
namespace Go.Proofs.YtfkpbgookilhjaaGreatDoor
set_option linter.unusedSimpArgs false
set_option linter.unusedVariables false
open Go.RowKit

def knownV : JobV := ⟨none, 0, [], [109], none, 0, [], 1, 0, false⟩
theorem knownV_enc : knownV.m.enc = [67, 76, 86, 83, 1, 0, 0, 0, 0, 0, 0, 0, 0, 0, 1, 0, 109, 0, 0, 0, 0] := by decide
theorem knownV_at (w : World) : JobAt w knownV := ⟨RowsAt.nil w, by simp [knownV], RowsAt.nil w, by decide⟩
theorem knownV_may : mayJ knownV.m = true := by decide

set_option maxHeartbeats 2000000 in
set_option maxRecDepth 10000 in
theorem sc_known (w : World) (hE : ET w) : Calls Tryz.prog 7 #[] w fun e w' => e = .returned (.bool true) ∧ Below w.heap.size w w' := by
  have hal : Below w.heap.size w (w.alloc (.cells #[.slice none 0 0, .string ⟨#[109]⟩, .slice none 0 0, .int .i64 1, .int .u64 0, .bool false] 27)) := (Below.refl _ _).alloc (Nat.le_refl _) _
  have HB := hid (fun W => show Calls Tryz.prog 8 #[.agg #[.slice none 0 0, .string ⟨#[109]⟩, .slice none 0 0, .int .i64 1, .int .u64 0, .bool false]] W _ from sc_bytes_yes W knownV (knownV_at W) knownV_may)
  have H := hid (And.intro hal hE)
  clear hal hE
  go_enter Tryz.func7, Tryz.ntmps7
  go_wp2_with fail
  refine (HB.out _).mono ?_
  rintro e w1 ⟨v1, rfl, hown1, hb1⟩
  rw [knownV_enc] at hown1
  have hbs1 := hown1.bs (by decide)
  obtain ⟨p1, c1, rfl⟩ := hown1.form
  have hb1' := H.out.1.trans (hb1.mono H.out.1.size)
  have H1 := hid (And.intro hbs1 (And.intro hb1' (H.out.2.below H.out.2.lt hb1')))
  clear hown1 hbs1 hb1 hb1'
  have HR := hid (fun (W : World) (hb : BS W (.slice p1 21 c1) [67, 76, 86, 83, 1, 0, 0, 0, 0, 0, 0, 0, 0, 0, 1, 0, 109, 0, 0, 0, 0]) (hE : ET W) => show Calls Tryz.prog 21 #[.slice p1 21 c1] W fun e w' => ∃ v, e = .returned (.tuple #[v, .int .i64 0]) ∧ OB w' W.heap.size 5 v [70, 1, 17, 1, 0, 109] ∧ Below W.heap.size W w' from by
    have h1 := sc_run_no W p1 c1 knownV.m ((mayJ_iff _).1 knownV_may) rfl (by decide) (by rw [knownV_enc]; exact hb) hE
    rw [knownV_enc] at h1
    exact h1)
  go_wp2_with fail
  refine (HR.out w1 H1.out.1 H1.out.2.2).mono ?_
  rintro e w2 ⟨v2, rfl, hown2, hb2⟩
  have hbs2 := hown2.bs (by decide)
  obtain ⟨p2, c2, rfl⟩ := hown2.form
  have t1 : (convert 30 9 (.slice p1 21 c1)).run Tryz.prog w2 = .ok (.string ⟨#[67, 76, 86, 83, 1, 0, 0, 0, 0, 0, 0, 0, 0, 0, 1, 0, 109, 0, 0, 0, 0]⟩) w2 := run_toString (P := Tryz.prog) (dst := 9) _ _ _ un_bsR un_u8R un_strR (H1.out.1.below hb2)
  have t2 : (convert 30 9 (.slice p2 6 c2)).run Tryz.prog w2 = .ok (.string ⟨#[70, 1, 17, 1, 0, 109]⟩) w2 := run_toString (P := Tryz.prog) (dst := 9) _ _ _ un_bsR un_u8R un_strR hbs2
  have H2 := hid (H1.out.2.1.trans (hb2.mono H1.out.2.1.size))
  clear hown2 hb2 hbs2
  go_wp2_with fail
  go_ret
  exact ⟨rfl, H2.out⟩
end Go.Proofs.YtfkpbgookilhjaaGreatDoor
