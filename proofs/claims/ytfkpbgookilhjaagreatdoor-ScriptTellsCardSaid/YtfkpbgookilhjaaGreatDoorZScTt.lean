/- The law ScriptTells. -/
import Derived.Test.YtfkpbgookilhjaaGreatDoorZScKn
import Derived.Test.YtfkpbgookilhjaaGreatDoorZScTr
import Derived.Test.YtfkpbgookilhjaaGreatDoorZScTx
import Derived.Deep.RegionHeld
namespace Go.Proofs.YtfkpbgookilhjaaGreatDoor
set_option linter.unusedSimpArgs false
set_option linter.unusedVariables false
open Go.RowKit

/-- What stands while the law goes on: the job's box, and where it was read. -/
structure JTn (w W : World) (j : ToldV) : Prop where
  one : ToldBox W w.heap.size j.h
  at_ : ToldAt W j
  et : ET W
  bel : Below w.heap.size w W
theorem JTn.below {w W W' : World} {j : ToldV} (h : JTn w W j) (hb : Below W.heap.size W W') : JTn w W' j :=
  ⟨h.one.below hb, h.at_.below hb, h.et.below h.et.lt hb, h.bel.trans (hb.mono h.bel.size)⟩
theorem JTn.new (w : World) (j : ToldV) (h : ToldAt w j) (hE : ET w) : JTn w (w.alloc (.cells j.h.cells 49)) j :=
  have hb : Below w.heap.size w (w.alloc (.cells j.h.cells 49)) := (Below.refl _ _).alloc (Nat.le_refl _) _
  ⟨ToldBox.new w j.h, h.below hb, hE.below hE.lt hb, hb⟩
structure JTn2 (w W : World) (X : Nat) (j V : ToldV) (p : Option Addr) (c : Nat) (L : List UInt8) : Prop where
  i : JTn w W j
  two : ToldBox W X V.h
  vat : ToldAt W V
  bs : BS W (.slice p L.length c) L
theorem JTn2.below {w W W' : World} {X : Nat} {j V : ToldV} {p : Option Addr} {c : Nat} {L : List UInt8} (h : JTn2 w W X j V p c L) (hb : Below W.heap.size W W') : JTn2 w W' X j V p c L :=
  ⟨h.i.below hb, h.two.below hb, h.vat.below hb, h.bs.below hb⟩
theorem below_drew (W : World) : Below W.heap.size W W.drew := ⟨rfl, rfl, rfl, Nat.le_refl _, fun _ _ => rfl⟩

set_option maxHeartbeats 4000000 in
theorem st_law_no (w : World) (j : ToldV) (h : ToldAt w j) (hE : ET w) (hsm : Small j) (hm : mayT j.m = false) : Calls Tryz.prog 5 #[.agg j.h.cells] w fun e w' => e = .returned (.bool true) ∧ Below w.heap.size w w' := by
  have H := hid (JTn.new w j h hE)
  have HB := hid (fun W (hW : ToldAt W j) => show Calls Tryz.prog 16 #[.agg #[.int .i64 j.ph, .string (mkS j.img), .int .i64 j.er, .slice j.sp j.seats.length j.sc, .slice j.mp j.mem.length j.mc, .slice j.np j.inits.length j.nc, .int .u64 (j.entry : Int)]] W _ from tl_bytes_no W j hW hsm hm)
  have HU := hid (fun W (hW : ToldAt W j) => show Calls Tryz.prog 15 #[.agg #[.int .i64 j.ph, .string (mkS j.img), .int .i64 j.er, .slice j.sp j.seats.length j.sc, .slice j.mp j.mem.length j.mc, .slice j.np j.inits.length j.nc, .int .u64 (j.entry : Int)]] W _ from rt_much W j hW)
  have HM := hid (fun W (hW : ToldAt W j) => show Calls Tryz.prog 17 #[.agg #[.int .i64 j.ph, .string (mkS j.img), .int .i64 j.er, .slice j.sp j.seats.length j.sc, .slice j.mp j.mem.length j.mc, .slice j.np j.inits.length j.nc, .int .u64 (j.entry : Int)]] W fun e w' => e = .returned (.bool false) ∧ Below W.heap.size W w' from by have := rt_may W j hW; rw [hm] at this; exact this)
  have HS := hid (fun W (hW : ToldAt W j) => show Calls Tryz.prog 14 #[.agg #[.int .i64 j.ph, .string (mkS j.img), .int .i64 j.er, .slice j.sp j.seats.length j.sc, .slice j.mp j.mem.length j.mc, .slice j.np j.inits.length j.nc, .int .u64 (j.entry : Int)]] W fun e w' => e = .returned (.bool false) ∧ Below W.heap.size W w' from by have := tl_may W j hW hsm; rw [hm] at this; exact this)
  clear h hE hm hsm
  show Calls Tryz.prog 5 #[.agg #[.int .i64 j.ph, .string (mkS j.img), .int .i64 j.er, .slice j.sp j.seats.length j.sc, .slice j.mp j.mem.length j.mc, .slice j.np j.inits.length j.nc, .int .u64 (j.entry : Int)]] w _
  obtain ⟨x0, x1, x2, x3, x4, x5, x6⟩ := H.out.one.atV
  go_enter Tryz.func5, Tryz.ntmps5
  go_wp2_with fail
  refine (HU.out _ H.out.at_).mono ?_
  rintro e w1 ⟨b1, rfl, hb1⟩
  have hi1 := H.out.below hb1
  clear hb1 x0 x1 x2 x3 x4 x5 x6
  cases b1 with
  | true =>
    have H1 := hid hi1
    clear hi1
    go_wp2_with fail
    refine (sc_known _ H1.out.et).mono ?_
    rintro e w2 ⟨rfl, hb2⟩
    have H2 := hid (H1.out.bel.trans (hb2.mono H1.out.bel.size))
    clear hb2
    go_wp2_with fail
    go_ret
    exact ⟨rfl, H2.out⟩
  | false =>
    obtain ⟨x0, x1, x2, x3, x4, x5, x6⟩ := hi1.one.atV
    have H1 := hid hi1
    clear hi1
    go_wp2_with fail
    refine (HB.out _ H1.out.at_).mono ?_
    rintro e w2 ⟨rfl, hb2⟩
    have hi2 := H1.out.below hb2
    clear hb2 x0 x1 x2 x3 x4 x5 x6
    obtain ⟨x0, x1, x2, x3, x4, x5, x6⟩ := hi2.one.atV
    have H2 := hid hi2
    clear hi2
    go_wp2_with fail
    refine (HM.out _ H2.out.at_).mono ?_
    rintro e w3 ⟨rfl, hb3⟩
    have hi3 := H2.out.below hb3
    clear hb3 x0 x1 x2 x3 x4 x5 x6
    obtain ⟨x0, x1, x2, x3, x4, x5, x6⟩ := hi3.one.atV
    have H3 := hid hi3
    clear hi3
    go_wp2_with fail
    refine (HS.out _ H3.out.at_).mono ?_
    rintro e w4 ⟨rfl, hb4⟩
    have hi4 := H3.out.below hb4
    clear hb4 x0 x1 x2 x3 x4 x5 x6
    have H4 := hid hi4
    clear hi4
    go_wp2_with fail
    refine (sc_known _ H4.out.et).mono ?_
    rintro e w5 ⟨rfl, hb5⟩
    have H5 := hid (H4.out.bel.trans (hb5.mono H4.out.bel.size))
    clear hb5
    go_wp2_with fail
    go_ret
    exact ⟨rfl, H5.out⟩

set_option maxHeartbeats 4000000 in
theorem st_law_yes (w : World) (j : ToldV) (h : ToldAt w j) (hE : ET w) (hsm : Small j) (hm : mayT j.m = true) : Calls Tryz.prog 5 #[.agg j.h.cells] w fun e w' => e = .returned (.bool true) ∧ Below w.heap.size w w' := by
  have H := hid (JTn.new w j h hE)
  obtain ⟨L, hL⟩ : ∃ L, L = j.m.enc := ⟨_, rfl⟩
  have hLl : L.length ≤ 140737488355328 := by rw [hL]; exact enc_short h hm
  have HB := hid (fun W (hW : ToldAt W j) => show Calls Tryz.prog 16 #[.agg #[.int .i64 j.ph, .string (mkS j.img), .int .i64 j.er, .slice j.sp j.seats.length j.sc, .slice j.mp j.mem.length j.mc, .slice j.np j.inits.length j.nc, .int .u64 (j.entry : Int)]] W fun e w' => ∃ v, e = .returned (.tuple #[v, .int .i64 0]) ∧ OB w' W.heap.size 5 v L ∧ Below W.heap.size W w' from by rw [hL]; exact tl_bytes_yes W j hW hsm hm)
  have HRb := hid (fun W (hW : ToldAt W j) => show Calls Tryz.prog 19 #[.agg #[.int .i64 j.ph, .string (mkS j.img), .int .i64 j.er, .slice j.sp j.seats.length j.sc, .slice j.mp j.mem.length j.mc, .slice j.np j.inits.length j.nc, .int .u64 (j.entry : Int)]] W fun e w' => ∃ v, e = .returned v ∧ OB w' W.heap.size 5 v L ∧ Below W.heap.size W w' from by rw [hL]; exact rf_told W j hW hm)
  have HU := hid (fun W (hW : ToldAt W j) => show Calls Tryz.prog 15 #[.agg #[.int .i64 j.ph, .string (mkS j.img), .int .i64 j.er, .slice j.sp j.seats.length j.sc, .slice j.mp j.mem.length j.mc, .slice j.np j.inits.length j.nc, .int .u64 (j.entry : Int)]] W _ from rt_much W j hW)
  have HM := hid (fun W (hW : ToldAt W j) => show Calls Tryz.prog 17 #[.agg #[.int .i64 j.ph, .string (mkS j.img), .int .i64 j.er, .slice j.sp j.seats.length j.sc, .slice j.mp j.mem.length j.mc, .slice j.np j.inits.length j.nc, .int .u64 (j.entry : Int)]] W fun e w' => e = .returned (.bool true) ∧ Below W.heap.size W w' from by have := rt_may W j hW; rw [hm] at this; exact this)
  have HS := hid (fun W (hW : ToldAt W j) => show Calls Tryz.prog 14 #[.agg #[.int .i64 j.ph, .string (mkS j.img), .int .i64 j.er, .slice j.sp j.seats.length j.sc, .slice j.mp j.mem.length j.mc, .slice j.np j.inits.length j.nc, .int .u64 (j.entry : Int)]] W fun e w' => e = .returned (.bool true) ∧ Below W.heap.size W w' from by have := tl_may W j hW hsm; rw [hm] at this; exact this)
  have HO := hid (fun W p c (hW : ToldAt W j) (hb : BS W (.slice p L.length c) L) => show Calls Tryz.prog 18 #[.slice p L.length c] W fun e w' => ∃ V : ToldV, e = .returned (.tuple #[.agg #[.int .i64 V.ph, .string (mkS V.img), .int .i64 V.er, .slice V.sp V.seats.length V.sc, .slice V.mp V.mem.length V.mc, .slice V.np V.inits.length V.nc, .int .u64 (V.entry : Int)], .int .i64 0]) ∧ V.m = j.m ∧ ToldAt w' V ∧ Below W.heap.size W w' from by rw [hL] at hb ⊢; exact tl_of W p c j hW hm hb)
  have HSJ := hid (fun W (V : ToldV) (hV : ToldAt W V) (hW : ToldAt W j) (hv : V.m = j.m) => show Calls Tryz.prog 20 #[.agg #[.int .i64 V.ph, .string (mkS V.img), .int .i64 V.er, .slice V.sp V.seats.length V.sc, .slice V.mp V.mem.length V.mc, .slice V.np V.inits.length V.nc, .int .u64 (V.entry : Int)], .agg #[.int .i64 j.ph, .string (mkS j.img), .int .i64 j.er, .slice j.sp j.seats.length j.sc, .slice j.mp j.mem.length j.mc, .slice j.np j.inits.length j.nc, .int .u64 (j.entry : Int)]] W _ from rt_same' W V j hV hW hv hm)
  have HLl := hid hLl
  clear h hE hm hL hsm hLl
  show Calls Tryz.prog 5 #[.agg #[.int .i64 j.ph, .string (mkS j.img), .int .i64 j.er, .slice j.sp j.seats.length j.sc, .slice j.mp j.mem.length j.mc, .slice j.np j.inits.length j.nc, .int .u64 (j.entry : Int)]] w _
  obtain ⟨x0, x1, x2, x3, x4, x5, x6⟩ := H.out.one.atV
  go_enter Tryz.func5, Tryz.ntmps5
  go_wp2_with fail
  refine (HU.out _ H.out.at_).mono ?_
  rintro e w1 ⟨b1, rfl, hb1⟩
  have hi1 := H.out.below hb1
  clear hb1 x0 x1 x2 x3 x4 x5 x6
  cases b1 with
  | true =>
    have H1 := hid hi1
    clear hi1
    go_wp2_with fail
    refine (sc_known _ H1.out.et).mono ?_
    rintro e w2 ⟨rfl, hb2⟩
    have H2 := hid (H1.out.bel.trans (hb2.mono H1.out.bel.size))
    clear hb2
    go_wp2_with fail
    go_ret
    exact ⟨rfl, H2.out⟩
  | false =>
    obtain ⟨x0, x1, x2, x3, x4, x5, x6⟩ := hi1.one.atV
    have H1 := hid hi1
    clear hi1
    go_wp2_with fail
    refine (HB.out _ H1.out.at_).mono ?_
    rintro e w2 ⟨v2, rfl, hown2, hb2⟩
    have hbs2 := hown2.bs HLl.out
    obtain ⟨p, c, rfl⟩ := hown2.form
    have hi2 := H1.out.below hb2
    clear hb2 hown2 x0 x1 x2 x3 x4 x5 x6
    obtain ⟨x0, x1, x2, x3, x4, x5, x6⟩ := hi2.one.atV
    have H2 := hid (And.intro hi2 hbs2)
    clear hi2 hbs2
    go_wp2_with fail
    refine (HM.out _ H2.out.1.at_).mono ?_
    rintro e w3 ⟨rfl, hb3⟩
    have hi3 := H2.out.1.below hb3
    have hbs3 := H2.out.2.below hb3
    clear hb3 x0 x1 x2 x3 x4 x5 x6
    obtain ⟨x0, x1, x2, x3, x4, x5, x6⟩ := hi3.one.atV
    have H3 := hid (And.intro hi3 hbs3)
    clear hi3 hbs3
    go_wp2_with fail
    refine (HS.out _ H3.out.1.at_).mono ?_
    rintro e w4 ⟨rfl, hb4⟩
    have hi4 := H3.out.1.below hb4
    have hbs4 := H3.out.2.below hb4
    clear hb4 x0 x1 x2 x3 x4 x5 x6
    have H4 := hid (And.intro hi4 hbs4)
    clear hi4 hbs4
    go_wp2_with fail
    refine (HO.out _ p c H4.out.1.at_ H4.out.2).mono ?_
    rintro e w5 ⟨V, rfl, hVm, hVat, hb5⟩
    have hal : Below w5.heap.size w5 (w5.alloc (.cells #[.int .i64 V.ph, .string (mkS V.img), .int .i64 V.er, .slice V.sp V.seats.length V.sc, .slice V.mp V.mem.length V.mc, .slice V.np V.inits.length V.nc, .int .u64 (V.entry : Int)] 49)) := (Below.refl _ _).alloc (Nat.le_refl _) _
    have hr6 : (w5.alloc (.cells #[.int .i64 V.ph, .string (mkS V.img), .int .i64 V.er, .slice V.sp V.seats.length V.sc, .slice V.mp V.mem.length V.mc, .slice V.np V.inits.length V.nc, .int .u64 (V.entry : Int)] 49)).heap[w5.heap.size]? = some (.cells #[.int .i64 V.ph, .string (mkS V.img), .int .i64 V.er, .slice V.sp V.seats.length V.sc, .slice V.mp V.mem.length V.mc, .slice V.np V.inits.length V.nc, .int .u64 (V.entry : Int)] 49 (0, 0)) := heap_alloc_new w5 _
    obtain ⟨W6, hW6⟩ : ∃ W6, W6 = w5.alloc (.cells #[.int .i64 V.ph, .string (mkS V.img), .int .i64 V.er, .slice V.sp V.seats.length V.sc, .slice V.mp V.mem.length V.mc, .slice V.np V.inits.length V.nc, .int .u64 (V.entry : Int)] 49) := ⟨_, rfl⟩
    rw [← hW6] at hal hr6
    have hj6 : JTn2 w W6 w5.heap.size j V p c L := ⟨(H4.out.1.below hb5).below hal, hr6, hVat.below hal, (H4.out.2.below hb5).below hal⟩
    have H6 := hid (And.intro hj6 (And.intro hVm hW6.symm))
    clear hj6 hVm hVat hb5 hal hr6 hW6
    go_upto_region 10 with fail
    rw [H6.out.2.2]
    have hi := H6.out.1.below (below_drew _)
    go_region_held (fun W => (W.cell? ⟨w.heap.size, 0, none⟩ = some (.int .i64 j.ph) ∧ W.cell? ⟨w.heap.size, 1, none⟩ = some (.string (mkS j.img)) ∧ W.cell? ⟨w.heap.size, 2, none⟩ = some (.int .i64 j.er) ∧ W.cell? ⟨w.heap.size, 3, none⟩ = some (.slice j.sp j.seats.length j.sc) ∧ W.cell? ⟨w.heap.size, 4, none⟩ = some (.slice j.mp j.mem.length j.mc) ∧ W.cell? ⟨w.heap.size, 5, none⟩ = some (.slice j.np j.inits.length j.nc) ∧ W.cell? ⟨w.heap.size, 6, none⟩ = some (.int .u64 (j.entry : Int))) ∧ (W.cell? ⟨w5.heap.size, 0, none⟩ = some (.int .i64 V.ph) ∧ W.cell? ⟨w5.heap.size, 1, none⟩ = some (.string (mkS V.img)) ∧ W.cell? ⟨w5.heap.size, 2, none⟩ = some (.int .i64 V.er) ∧ W.cell? ⟨w5.heap.size, 3, none⟩ = some (.slice V.sp V.seats.length V.sc) ∧ W.cell? ⟨w5.heap.size, 4, none⟩ = some (.slice V.mp V.mem.length V.mc) ∧ W.cell? ⟨w5.heap.size, 5, none⟩ = some (.slice V.np V.inits.length V.nc) ∧ W.cell? ⟨w5.heap.size, 6, none⟩ = some (.int .u64 (V.entry : Int))) ∧ (convert 30 9 (.slice p L.length c)).run Tryz.prog W = .ok (.string (mkS L)) W) (exact ⟨hi.i.one.atV, hi.two.atV, run_toString (P := Tryz.prog) (dst := 9) _ _ _ un_bsR un_u8R un_strR hi.bs⟩)
      (first
        | (go_at_call 19; (with_reducible refine (HRb.out _ hi.i.at_).mono ?_); rintro e w7 ⟨v7, rfl, ho7, hb7⟩; have hbs7 := ho7.bs HLl.out; obtain ⟨p7, c7, hv7⟩ := ho7.form; subst hv7; have hi := hi.below hb7; have u2 := run_toString (P := Tryz.prog) (dst := 9) _ _ _ un_bsR un_u8R un_strR hbs7; clear hbs7 hb7 ho7)
        | (go_at_call 20; (with_reducible refine (HSJ.out _ V hi.vat hi.i.at_ H6.out.2.1).mono ?_); rintro e w8 ⟨rfl, hb8⟩; have hi := hi.below hb8; clear hb8)
        | (go_at_call 7; (with_reducible refine (sc_known _ hi.i.et).mono ?_); rintro e w9 ⟨rfl, hb9⟩; have hi := hi.below hb9; clear hb9)
        | fail "no call")
    all_goals
      have hi := hid hi.i.bel
      go_wp2_with fail
      go_ret
      exact ⟨rfl, hi.out⟩
theorem st_law (w : World) (j : ToldV) (h : ToldAt w j) (hE : ET w) (hsm : Small j) : Calls Tryz.prog 5 #[.agg j.h.cells] w fun e w' => e = .returned (.bool true) ∧ Below w.heap.size w w' := by
  cases hm : mayT j.m with
  | true => exact st_law_yes w j h hE hsm hm
  | false => exact st_law_no w j h hE hsm hm
end Go.Proofs.YtfkpbgookilhjaaGreatDoor
