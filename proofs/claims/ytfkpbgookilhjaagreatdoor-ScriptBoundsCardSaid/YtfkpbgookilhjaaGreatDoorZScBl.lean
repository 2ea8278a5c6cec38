/- The law ScriptBounds: jobs, and what is told, at their bounds. -/
import Derived.Test.YtfkpbgookilhjaaGreatDoorZScBb
import Derived.Deep.RegionHeld
namespace Go.Proofs.YtfkpbgookilhjaaGreatDoor
set_option linter.unusedSimpArgs false
set_option linter.unusedVariables false
open Go.RowKit

theorem zB_str (n k : Nat) (hk : k ≤ n) : (mkS (zB n)).extract 0 k = mkS (zB k) := by
  apply ByteArray.ext
  rw [ByteArray.data_extract]
  simp [mkS, zB, List.extract_eq_take_drop, hk]
theorem zB_size (n : Nat) : (mkS (zB n)).size = n := by
  show (zB n).toArray.size = n
  rw [List.size_toArray, zB_length]

/-- What stands behind the piece: its bytes in g, what is told in bx. -/
structure BxIn (w W : World) (g bx : Nat) (v : Value) : Prop where
  gb : W.heap[g]? = some (.cells (u8s (zB 67108832)).toArray 5 (0, 0))
  box : W.heap[bx]? = some (.cells #[.int .i64 0, .string ⟨#[]⟩, .int .i64 0, .slice none 0 0, v, .slice none 0 0, .int .u64 0] 49 (0, 0))
  bel : Below w.heap.size w W
theorem BxIn.below {w W W' : World} {g bx : Nat} {v : Value} (h : BxIn w W g bx v) (hb : Below W.heap.size W W') : BxIn w W' g bx v :=
  ⟨(hb.block _ (Array.getElem?_eq_some_iff.1 h.gb).1).trans h.gb, (hb.block _ (Array.getElem?_eq_some_iff.1 h.box).1).trans h.box, h.bel.trans (hb.mono h.bel.size)⟩
theorem told_zero (W : World) (ph er : Int) (entry : Nat) (he : entry < 2 ^ 64) (b : Bool) (hb : mayT ⟨ph, [], er, [], [], [], entry⟩ = b) :
    Calls Tryz.prog 14 #[.agg #[.int .i64 ph, .string ⟨#[]⟩, .int .i64 er, .slice none 0 0, .slice none 0 0, .slice none 0 0, .int .u64 (entry : Int)]] W fun e w' => e = .returned (.bool b) ∧ Below W.heap.size W w' := by
  have := tl_may W (tZ ph er entry) (tZ_at W ph er entry he) (tZ_small ph er entry)
  rw [may_tZ, hb] at this
  exact this
theorem below_drewB (W : World) : Below W.heap.size W W.drew := ⟨rfl, rfl, rfl, Nat.le_refl _, fun _ _ => rfl⟩
theorem may_bytesE {W : World} {g n : Nat} (hg : W.heap[g]? = some (.cells (u8s (zB n)).toArray 5 (0, 0))) (b : Bool) (hb : (!decide (1048576 < n)) = b) :
    Calls Tryz.prog 10 #[.agg #[.slice (some ⟨W.heap.size, 0, none⟩) 1 1, .string ⟨#[]⟩, .slice none 0 0, .int .i64 1, .int .u64 0, .bool false]] (W.alloc (.cells #[.string ⟨#[]⟩, .slice (some ⟨g, 0, none⟩) n n] 39)) fun e w' => e = .returned (.bool b) ∧ Below W.heap.size W w' := by
  have hal : Below W.heap.size W (W.alloc (.cells #[.string ⟨#[]⟩, .slice (some ⟨g, 0, none⟩) n n] 39)) := (Below.refl _ _).alloc (Nat.le_refl _) _
  have hg2 := (hal.block _ (Array.getElem?_eq_some_iff.1 hg).1).trans hg
  have hr := heap_alloc_new W (.cells #[.string ⟨#[]⟩, .slice (some ⟨g, 0, none⟩) n n] 39)
  have := sc_may _ (jE W.heap.size g n) (jE_at hg2 hr)
  rw [mayE, hb] at this
  exact this.mono fun e w' ⟨h1, h2⟩ => ⟨h1, hal.trans (h2.mono hal.size)⟩
theorem may_longF {W : World} {L : ByteArray} (hL : L = mkS (zB 256)) :
    Calls Tryz.prog 10 #[.agg #[.slice none 0 0, .string ⟨#[]⟩, .slice (some ⟨W.heap.size, 0, none⟩) 1 1, .int .i64 1, .int .u64 0, .bool false]] (W.alloc (.cells #[.string L] 9)) fun e w' => e = .returned (.bool false) ∧ Below W.heap.size W w' := by
  subst hL
  have hal : Below W.heap.size W (W.alloc (.cells #[.string (mkS (zB 256))] 9)) := (Below.refl _ _).alloc (Nat.le_refl _) _
  have hr := heap_alloc_new W (.cells #[.string (mkS (zB 256))] 9)
  have := sc_may _ (jF W.heap.size) (jF_at hr)
  rw [mayF] at this
  exact this.mono fun e w' ⟨h1, h2⟩ => ⟨h1, hal.trans (h2.mono hal.size)⟩

set_option maxHeartbeats 4000000 in
set_option maxRecDepth 10000 in
theorem sb_law (w : World) (hE : ET w) : Calls Tryz.prog 4 #[] w fun e w' => e = .returned (.bool true) ∧ Below w.heap.size w w' := by
  obtain ⟨w1, hw1⟩ : ∃ w1, w1 = w.alloc (.cells (u8s (zB 256)).toArray 5) := ⟨_, rfl⟩
  obtain ⟨w2, hw2⟩ : ∃ w2, w2 = w1.alloc (.cells (madeCells #[.string (mkS []), .slice none 0 0] 130) 39) := ⟨_, rfl⟩
  obtain ⟨w3, hw3⟩ : ∃ w3, w3 = w2.alloc (.cells (madeCells #[.string (mkS [])] 65) 9) := ⟨_, rfl⟩
  have m1 : (Instr.makeSlice 30 (.int .i64 256) (.int .i64 256)).run Tryz.prog w = .ok (.slice (some ⟨w.heap.size, 0, none⟩) 256 256) w1 := by rw [hw1]; exact make_zB w 256 (by decide)
  have m2 : (Instr.makeSlice 22 (.int .i64 65) (.int .i64 65)).run Tryz.prog w1 = .ok (.slice (some ⟨w1.heap.size, 0, none⟩) 65 65) w2 := by rw [hw2]; exact make_fs w1
  have m3 : (Instr.makeSlice 23 (.int .i64 65) (.int .i64 65)).run Tryz.prog w2 = .ok (.slice (some ⟨w2.heap.size, 0, none⟩) 65 65) w3 := by rw [hw3]; exact make_ss w2
  have hg1 : w1.heap[w.heap.size]? = some (.cells (u8s (zB 256)).toArray 5 (0, 0)) := by rw [hw1]; exact heap_alloc_new w _
  have c1 : (convert 30 9 (.slice (some ⟨w.heap.size, 0, none⟩) 256 256)).run Tryz.prog w1 = .ok (.string (mkS (zB 256))) w1 := run_toString (P := Tryz.prog) (dst := 9) _ _ _ un_bsR un_u8R un_strR ((big_made hg1).2 (by decide))
  have hb1 : Below w.heap.size w w1 := by rw [hw1]; exact (Below.refl _ _).alloc (Nat.le_refl _) _
  have hb2 : Below w1.heap.size w1 w2 := by rw [hw2]; exact (Below.refl _ _).alloc (Nat.le_refl _) _
  have hb3 : Below w2.heap.size w2 w3 := by rw [hw3]; exact (Below.refl _ _).alloc (Nat.le_refl _) _
  have hf2 : w2.heap[w1.heap.size]? = some (.cells (madeCells #[.string (mkS []), .slice none 0 0] 130) 39 (0, 0)) := by rw [hw2]; exact heap_alloc_new w1 _
  have hs3 : w3.heap[w2.heap.size]? = some (.cells (madeCells #[.string (mkS [])] 65) 9 (0, 0)) := by rw [hw3]; exact heap_alloc_new w2 _
  obtain ⟨bF, hbF⟩ : ∃ b, b = w1.heap.size := ⟨_, rfl⟩
  obtain ⟨bS, hbS⟩ : ∃ b, b = w2.heap.size := ⟨_, rfl⟩
  rw [← hbF] at m2 hf2
  rw [← hbS] at m3 hs3
  have h3 : BdIn w w3 bF bS := ⟨(hb3.block _ (Array.getElem?_eq_some_iff.1 hf2).1).trans hf2, hs3, ((hE.below hE.lt hb1).below (hE.below hE.lt hb1).lt hb2).below ((hE.below hE.lt hb1).below (hE.below hE.lt hb1).lt hb2).lt hb3, hb1.trans ((hb2.mono hb1.size).trans (hb3.mono (Nat.le_trans hb1.size hb2.size)))⟩
  have H3 := hid h3
  have KA := hid (fun W (h : BdIn w W bF bS) => show Calls Tryz.prog 10 #[.agg #[.slice (some ⟨bF, 0, none⟩) 64 65, .string (mkS (zB 255)), .slice (some ⟨bS, 0, none⟩) 64 65, .int .i64 2, .int .u64 0, .bool false]] W fun e w' => e = .returned (.bool true) ∧ Below W.heap.size W w' from by have := sc_may W (jA bF bS) (jA_at h); rw [mayA] at this; exact this)
  have KB := hid (fun W (h : BdIn w W bF bS) => show Calls Tryz.prog 10 #[.agg #[.slice (some ⟨bF, 0, none⟩) 65 65, .string ⟨#[]⟩, .slice none 0 0, .int .i64 2, .int .u64 0, .bool false]] W fun e w' => e = .returned (.bool false) ∧ Below W.heap.size W w' from by have := sc_may W (jB bF) (jB_at h); rw [mayB] at this; exact this)
  have KC := hid (fun W (h : BdIn w W bF bS) => show Calls Tryz.prog 10 #[.agg #[.slice none 0 0, .string ⟨#[]⟩, .slice (some ⟨bS, 0, none⟩) 65 65, .int .i64 2, .int .u64 0, .bool false]] W fun e w' => e = .returned (.bool false) ∧ Below W.heap.size W w' from by have := sc_may W (jC bS) (jC_at h); rw [mayC] at this; exact this)
  have KD := hid (fun W => show Calls Tryz.prog 10 #[.agg #[.slice none 0 0, .string (mkS (zB 256)), .slice none 0 0, .int .i64 1, .int .u64 0, .bool false]] W fun e w' => e = .returned (.bool false) ∧ Below W.heap.size W w' from by have := sc_may W (jD (zB 256) 1) (jD_at W _ _); rw [mayD] at this; exact this)
  have KD0 := hid (fun W => show Calls Tryz.prog 10 #[.agg #[.slice none 0 0, .string ⟨#[]⟩, .slice none 0 0, .int .i64 0, .int .u64 0, .bool false]] W fun e w' => e = .returned (.bool false) ∧ Below W.heap.size W w' from by have := sc_may W (jD [] 0) (jD_at W _ _); rw [mayD0] at this; exact this)
  have KD3 := hid (fun W => show Calls Tryz.prog 10 #[.agg #[.slice none 0 0, .string ⟨#[]⟩, .slice none 0 0, .int .i64 3, .int .u64 0, .bool false]] W fun e w' => e = .returned (.bool false) ∧ Below W.heap.size W w' from by have := sc_may W (jD [] 3) (jD_at W _ _); rw [mayD3] at this; exact this)
  obtain ⟨L, hL⟩ : ∃ L, L = mkS (zB 256) := ⟨_, rfl⟩
  have z1 := zB_size 256
  have z2 := zB_str 256 255 (by decide)
  rw [← hL] at c1 z1 z2
  have KD := hid (fun W => by have := KD.out W; rw [← hL] at this; exact this)
  obtain ⟨L2, hL2⟩ : ∃ L, L = mkS (zB 255) := ⟨_, rfl⟩
  rw [← hL2] at z2
  have KA := hid (fun W h => by have := KA.out W h; rw [← hL2] at this; exact this)
  have HL := hid hL
  clear hw1 hw2 hw3 hg1 hb1 hb2 hb3 hf2 hs3 hbF hbS h3 hE hL hL2
  go_enter Tryz.func4, Tryz.ntmps4
  go_upto_region 4 with fail
  have hi := H3.out.below (below_drewB _)
  go_region_held (fun W => True) (trivial)
    (first
      | (go_at_call 10; (with_reducible refine (KA.out _ hi).mono ?_); rintro e w4 ⟨rfl, hb4⟩; have hi := hi.below hb4; clear hb4)
      | (go_at_call 10; (with_reducible refine (KB.out _ hi).mono ?_); rintro e w4 ⟨rfl, hb4⟩; have hi := hi.below hb4; clear hb4)
      | (go_at_call 10; (with_reducible refine (KC.out _ hi).mono ?_); rintro e w4 ⟨rfl, hb4⟩; have hi := hi.below hb4; clear hb4)
      | (go_at_call 10; (with_reducible refine (KD.out _).mono ?_); rintro e w4 ⟨rfl, hb4⟩; have hi := hi.below hb4; clear hb4)
      | (go_at_call 10; (with_reducible refine (KD0.out _).mono ?_); rintro e w4 ⟨rfl, hb4⟩; have hi := hi.below hb4; clear hb4)
      | (go_at_call 10; (with_reducible refine (KD3.out _).mono ?_); rintro e w4 ⟨rfl, hb4⟩; have hi := hi.below hb4; clear hb4)
      | fail "no call")
  have H4 := hid hi
  clear hi m1 m2 m3 c1 z1 z2
  obtain ⟨w5, hw5⟩ : ∃ w5, w5 = w4.alloc (.cells (u8s (zB 1048577)).toArray 5) := ⟨_, rfl⟩
  have m5 : (Instr.makeSlice 30 (.int .i64 1048577) (.int .i64 1048577)).run Tryz.prog w4 = .ok (.slice (some ⟨w4.heap.size, 0, none⟩) 1048577 1048577) w5 := by rw [hw5]; exact make_zB w4 1048577 (by decide)
  have hg5 : w5.heap[w4.heap.size]? = some (.cells (u8s (zB 1048577)).toArray 5 (0, 0)) := by rw [hw5]; exact heap_alloc_new w4 _
  have hb5 : Below w4.heap.size w4 w5 := by rw [hw5]; exact (Below.refl _ _).alloc (Nat.le_refl _) _
  have H5 := hid (And.intro hg5 (H4.out.below hb5))
  clear hw5 hg5 hb5
  go_wp2_with fail
  refine (may_bytesE H5.out.1 false (by decide)).mono ?_
  rintro e w6 ⟨rfl, hb6⟩
  have H6 := hid (H5.out.2.below hb6)
  clear hb6 m5
  obtain ⟨w7, hw7⟩ : ∃ w7, w7 = w6.alloc (.cells (u8s (zB 1048576)).toArray 5) := ⟨_, rfl⟩
  have m7 : (Instr.makeSlice 30 (.int .i64 1048576) (.int .i64 1048576)).run Tryz.prog w6 = .ok (.slice (some ⟨w6.heap.size, 0, none⟩) 1048576 1048576) w7 := by rw [hw7]; exact make_zB w6 1048576 (by decide)
  have hg7 : w7.heap[w6.heap.size]? = some (.cells (u8s (zB 1048576)).toArray 5 (0, 0)) := by rw [hw7]; exact heap_alloc_new w6 _
  have hb7 : Below w6.heap.size w6 w7 := by rw [hw7]; exact (Below.refl _ _).alloc (Nat.le_refl _) _
  have H7 := hid (And.intro hg7 (H6.out.below hb7))
  clear hw7 hg7 hb7
  go_wp2_with fail
  refine (may_bytesE H7.out.1 true (by decide)).mono ?_
  rintro e w8 ⟨rfl, hb8⟩
  have H8 := hid (H7.out.2.below hb8)
  clear hb8 m7
  go_wp2_with fail
  refine (may_longF HL.out).mono ?_
  rintro e w9 ⟨rfl, hb9⟩
  have H9 := hid (H8.out.below hb9)
  clear hb9
  obtain ⟨wa, hwa⟩ : ∃ wa, wa = w9.alloc (.cells (u8s (zB 67108832)).toArray 5) := ⟨_, rfl⟩
  have ma : (Instr.makeSlice 30 (.int .i64 67108832) (.int .i64 67108832)).run Tryz.prog w9 = .ok (.slice (some ⟨w9.heap.size, 0, none⟩) 67108832 67108832) wa := by rw [hwa]; exact make_zB w9 67108832 (by decide)
  have hga : wa.heap[w9.heap.size]? = some (.cells (u8s (zB 67108832)).toArray 5 (0, 0)) := by rw [hwa]; exact heap_alloc_new w9 _
  have hba : Below w9.heap.size w9 wa := by rw [hwa]; exact (Below.refl _ _).alloc (Nat.le_refl _) _
  have HA := hid (And.intro hga (H9.out.below hba))
  clear hwa hga hba
  go_upto_region 9 with fail
  obtain ⟨wb, hwb⟩ : ∃ wb, wb = wa.alloc (.cells #[.int .u64 0, .int .i64 0, .slice (some ⟨w9.heap.size, 0, none⟩) 67108832 67108832] 41) := ⟨_, rfl⟩
  obtain ⟨wc, hwc⟩ : ∃ wc, wc = wb.alloc (.cells #[.int .i64 0, .string ⟨#[]⟩, .int .i64 0, .slice none 0 0, .slice (some ⟨wa.heap.size, 0, none⟩) 1 1, .slice none 0 0, .int .u64 0] 49) := ⟨_, rfl⟩
  rw [← hwb, ← hwc]
  have hbb : Below wa.heap.size wa wb := by rw [hwb]; exact (Below.refl _ _).alloc (Nat.le_refl _) _
  have hbc : Below wb.heap.size wb wc := by rw [hwc]; exact (Below.refl _ _).alloc (Nat.le_refl _) _
  have hbd := hbb.trans (hbc.mono hbb.size)
  have hrb : wb.heap[wa.heap.size]? = some (.cells #[.int .u64 0, .int .i64 0, .slice (some ⟨w9.heap.size, 0, none⟩) 67108832 67108832] 41 (0, 0)) := by rw [hwb]; exact heap_alloc_new wa _
  have hrc := (hbc.block _ (Array.getElem?_eq_some_iff.1 hrb).1).trans hrb
  have hsz : wb.heap.size = wa.heap.size + 1 := by rw [hwb, World.size_alloc]
  have hbox : wc.heap[wa.heap.size + 1]? = some (.cells #[.int .i64 0, .string ⟨#[]⟩, .int .i64 0, .slice none 0 0, .slice (some ⟨wa.heap.size, 0, none⟩) 1 1, .slice none 0 0, .int .u64 0] 49 (0, 0)) := by rw [← hsz, hwc]; exact heap_alloc_new wb _
  have hgc := (hbd.block _ (Array.getElem?_eq_some_iff.1 HA.out.1).1).trans HA.out.1
  have hxc : BxIn wa wc w9.heap.size (wa.heap.size + 1) (.slice (some ⟨wa.heap.size, 0, none⟩) 1 1) := ⟨hgc, hbox, hbd⟩
  have KT := hid (show Calls Tryz.prog 14 #[.agg #[.int .i64 0, .string ⟨#[]⟩, .int .i64 0, .slice none 0 0, .slice (some ⟨wa.heap.size, 0, none⟩) 1 1, .slice none 0 0, .int .u64 0]] wc fun e w' => e = .returned (.bool true) ∧ Below wc.heap.size wc w' from by
    have := tl_may wc (tB wa.heap.size w9.heap.size 67108832) (tB_at hgc hrc) (by unfold Small tB; simp)
    rw [may_tB _ _ _ (Nat.le_refl _)] at this
    exact this)
  have HC := hid (And.intro hxc hrc)
  have hlt9 : w9.heap.size < wa.heap.size := (Array.getElem?_eq_some_iff.1 HA.out.1).1
  obtain ⟨x0, x1, x2, x3, x4, x5, x6⟩ := row7 hbox
  clear hwb hwc hbb hbc hbd hrb hrc hsz hbox hgc hxc ma
  go_wp2_with fail
  refine KT.out.mono ?_
  rintro e wd ⟨rfl, hbd⟩
  have hxd := HC.out.1.below hbd
  have hpd := (hbd.block _ (Array.getElem?_eq_some_iff.1 HC.out.2).1).trans HC.out.2
  clear hbd x0 x1 x2 x3 x4 x5 x6
  obtain ⟨x0, x1, x2, x3, x4, x5, x6⟩ := row7 hxd.box
  obtain ⟨i0, hi0, hz0, hz1, hz2⟩ := info_parts Tryz.info_pieces
  have hlb : wa.heap.size + 1 < wd.heap.size := (Array.getElem?_eq_some_iff.1 hxd.box).1
  have hown : wd.ownsRow wa.heap.size 41 3 (.slice (some ⟨wa.heap.size, 0, none⟩) 1 1) 1 [.int .u64 0, .int .i64 0, .slice (some ⟨w9.heap.size, 0, none⟩) 67108832 67108832] :=
    ⟨rfl, .inr ⟨wa.heap.size, 1, _, rfl, Nat.le_refl _, hpd, Nat.le_refl _, by decide, rfl, rfl⟩⟩
  have HD := hid (And.intro hxd (And.intro hown (And.intro hi0 (And.intro hz0 (And.intro hz1 hz2)))))
  have hfz : wd.frozen? ⟨wa.heap.size + 1, 4, none⟩ = false := by simp [World.frozen?, hxd.box]
  clear hxd hpd hown hi0 hz0 hz1 hz2
  go_wp2_with (at_builtin; refine wpList_append_grew _ rfl _ _ _ _ rfl wa.heap.size 41 i0 _ 3 40 Tryz.underlying42 HD.out.2.2.1 HD.out.2.2.2.1 HD.out.2.2.2.2.1 HD.out.2.2.2.2.2 rfl (.slice (some ⟨wa.heap.size, 0, none⟩) 1 1) 1 _ rfl (ownsRow_below HD.out.2.1 ((Below.refl _ _).alloc (Nat.le_refl _) _)) _ 1 [.int .u64 0, .int .i64 0, .slice none 0 0] rfl (Src.laid _ Tryz.underlying42 [.int .u64 0, .int .i64 0, .slice none 0 0] 1 rfl (by simp [Value.oneCell']) (0, 0) rfl) (by decide) (by decide) ?c3 ?_)
  case c3 => have := hlb; simp; omega
  intro v' we hown' hg'
  have hal : Below wd.heap.size wd (wd.alloc (.cells #[.int .u64 0, .int .i64 0, .slice none 0 0] 41)) := (Below.refl _ _).alloc (Nat.le_refl _) _
  have hob : (Value.slice (some ⟨wa.heap.size, 0, none⟩) 1 1).ownBlock = some wa.heap.size := rfl
  have hle : wa.heap.size ≤ (wd.alloc (.cells #[.int .u64 0, .int .i64 0, .slice none 0 0] 41)).heap.size := by simp; omega
  have hbe : Below wa.heap.size wd we := (hal.mono (by omega)).trans (hg'.below hle (fun k hk => by rw [hob] at hk; cases hk; exact Nat.le_refl _))
  have hxe : we.heap[wa.heap.size + 1]? = some (.cells #[.int .i64 0, .string ⟨#[]⟩, .int .i64 0, .slice none 0 0, .slice (some ⟨wa.heap.size, 0, none⟩) 1 1, .slice none 0 0, .int .u64 0] 49 (0, 0)) :=
    (hg'.block (by simp; omega) (by rw [hob]; intro e; have := Option.some.inj e; omega)).trans ((hal.block _ hlb).trans HD.out.1.box)
  have hne : v'.ownBlock ≠ some (wa.heap.size + 1) := by
    rcases hg'.lies with h | ⟨k, h1, h2⟩
    · rw [h, hob]; intro e; have := Option.some.inj e; omega
    · rw [h1]; intro e; have := Option.some.inj e; simp at h2; omega
  obtain ⟨pv, cv, rfl⟩ := ownsRow_form hown'
  have hge : we.heap[w9.heap.size]? = some (.cells (u8s (zB 67108832)).toArray 5 (0, 0)) := (hbe.block _ hlt9).trans HD.out.1.gb
  obtain ⟨hgp, hrp⟩ := put1 (i := 4) (.slice pv 2 cv) hxe
  have hrp : (we.setCell ⟨wa.heap.size + 1, 4, none⟩ (.slice pv 2 cv)).heap[wa.heap.size + 1]? = some (.cells #[.int .i64 0, .string ⟨#[]⟩, .int .i64 0, .slice none 0 0, .slice pv 2 cv, .slice none 0 0, .int .u64 0] 49 (0, 0)) := hrp
  have hog := World.ownsRow.kept hown' hgp (.inr (fun e => hne e))
  have hbp : Below wa.heap.size wa (we.setCell ⟨wa.heap.size + 1, 4, none⟩ (.slice pv 2 cv)) := Below.put (HD.out.1.bel.trans hbe) (Nat.le_refl _) (by omega) hgp
  have hgq : (we.setCell ⟨wa.heap.size + 1, 4, none⟩ (.slice pv 2 cv)).heap[w9.heap.size]? = some (.cells (u8s (zB 67108832)).toArray 5 (0, 0)) := (hbp.block _ hlt9).trans HA.out.1
  have KT2 := hid (show Calls Tryz.prog 14 #[.agg #[.int .i64 0, .string ⟨#[]⟩, .int .i64 0, .slice none 0 0, .slice pv 2 cv, .slice none 0 0, .int .u64 0]] (we.setCell ⟨wa.heap.size + 1, 4, none⟩ (.slice pv 2 cv)) fun e w' => e = .returned (.bool false) ∧ Below (we.setCell ⟨wa.heap.size + 1, 4, none⟩ (.slice pv 2 cv)).heap.size (we.setCell ⟨wa.heap.size + 1, 4, none⟩ (.slice pv 2 cv)) w' from by
    have := tl_may _ (tC pv cv w9.heap.size 67108832) (tC_at hgq (rows_own piecesLen hog (by simp))) (by unfold Small tC; simp)
    rw [may_tC _ _ _ _ (Nat.le_refl _)] at this
    exact this)
  have HE := hid (And.intro hbp hrp)
  have hfe : we.frozen? ⟨wa.heap.size + 1, 4, none⟩ = false := by simp [World.frozen?, hxe]
  have y4 := cell_of_row we (wa.heap.size + 1) 4 _ _ _ hxe
  obtain ⟨z0, z1, z2, z3, z4, z5, z6⟩ := row7 hrp
  clear hal hob hle hbe hxe hne hge hgp hrp hog hbp hgq hown' hg' x0 x1 x2 x3 x4 x5 x6 hfz
  go_wp2_with fail
  refine KT2.out.mono ?_
  rintro e wf ⟨rfl, hbf⟩
  have HF := hid (HE.out.1.trans (hbf.mono HE.out.1.size))
  clear hbf z0 z1 z2 z3 z4 z5 z6 hfe y4
  go_wp2_with fail
  refine (told_zero _ 0 0 0 (by decide) true (by decide)).mono ?_
  rintro e wg ⟨rfl, hbg⟩
  have HG := hid (HF.out.trans (hbg.mono HF.out.size))
  clear hbg
  go_wp2_with fail
  refine (told_zero _ 1 0 0 (by decide) false (by decide)).mono ?_
  rintro e wh ⟨rfl, hbh⟩
  have HH := hid (HG.out.trans (hbh.mono HG.out.size))
  clear hbh
  go_wp2_with fail
  refine (told_zero _ 0 5 1 (by decide) false (by decide)).mono ?_
  rintro e wi ⟨rfl, hbi⟩
  have HI := hid (HH.out.trans (hbi.mono HH.out.size))
  clear hbi
  go_wp2_with fail
  refine (told_zero _ 255 255 0 (by decide) true (by decide)).mono ?_
  rintro e wj ⟨rfl, hbj⟩
  have HJ := hid (HI.out.trans (hbj.mono HI.out.size))
  clear hbj
  go_wp2_with fail
  refine (told_zero _ 0 256 0 (by decide) false (by decide)).mono ?_
  rintro e wk ⟨rfl, hbk⟩
  have HK := hid (HJ.out.trans (hbk.mono HJ.out.size))
  clear hbk
  go_wp2_with fail
  refine (sc_known _ (HA.out.2.below HK.out).et).mono ?_
  rintro e wl ⟨rfl, hbl⟩
  have HL2 := hid ((HA.out.2.below HK.out).bel.trans (hbl.mono (HA.out.2.below HK.out).bel.size))
  clear hbl
  go_wp2_with fail
  go_ret
  exact ⟨rfl, HL2.out⟩
end Go.Proofs.YtfkpbgookilhjaaGreatDoor
