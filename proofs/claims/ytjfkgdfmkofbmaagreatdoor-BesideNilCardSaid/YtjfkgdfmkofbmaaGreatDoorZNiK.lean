/- BesideNil: Lay, Laid, Memory at nothing and at single rows. -/
import Derived.Test.YtjfkgdfmkofbmaaGreatDoorZNiJ
import Derived.Test.YtjfkgdfmkofbmaaGreatDoorZBmH
import Derived.Test.YtjfkgdfmkofbmaaGreatDoorZLwAz
namespace Go.Proofs.YtjfkgdfmkofbmaaGreatDoor
set_option linter.unusedSimpArgs false
set_option linter.unusedVariables false
open Go.RowKit

theorem PasAt.nilB (w : World) : PasAt w (.slice none 0 0) [] := ⟨RowsAt.nil w, by simp, by simp⟩
theorem no_rows : rowsZ [] [] = ⟨[], [], []⟩ ∧ bothB [] [] = true := by
  have h : bothB [] [] = true := by decide
  refine ⟨?_, h⟩
  unfold rowsZ
  rw [if_pos h]
  simp [memZ, mergeR, cellsZ, piecesZ]
theorem ni_mem0 (W : World) : Calls Tryz.prog 8 #[.slice none 0 0, .slice none 0 0] W (MemNil W) := by
  have h := bd_mem W _ _ [] [] (PzsAt.nil W) (PzsAt.nil W) (by simp) (by simp) (by simp [cellsZ])
  simp only [List.map_nil, no_rows.1, no_rows.2, errZ, if_true] at h
  refine h.mono ?_
  rintro e w5 ⟨X, vl, vg, vp, Ll, Lg, Lp, rfl, b5, hv, hrz⟩
  obtain ⟨e1, e2, e3⟩ : Ll = [] ∧ Lg = [] ∧ Lp = [] := by
    have h1 := congrArg Rz.lost hrz
    have h2 := congrArg Rz.gained hrz
    have h3 := congrArg Rz.patches hrz
    simp only [rzV, List.map_eq_nil_iff] at h1 h2 h3
    exact ⟨h1, h2, h3⟩
  subst e1 e2 e3
  obtain ⟨a1, a2, e1⟩ := RowsAt.form hv.l.reads.rows
  obtain ⟨a3, a4, e2⟩ := RowsAt.form hv.g.reads.rows
  obtain ⟨a5, a6, e3⟩ := RowsAt.form hv.p.reads.rows
  subst e1 e2 e3
  exact ⟨_, _, _, _, _, _, rfl, b5⟩
theorem ni_laid (W : World) : Calls Tryz.prog 5 #[.slice none 0 0] W fun e w' => ∃ p c, e = .returned (.tuple #[.slice p 0 c, .int .i64 0]) ∧ Below W.heap.size W w' := by
  refine (bd_laid W _ [] (PzsAt.nil W) (by simp) (by decide)).mono ?_
  rintro e w' ⟨v', rfl, hn⟩
  obtain ⟨hb, L, ho, hm⟩ := hn
  have hL : L = [] := by
    have : L.map PzV.m = [] := by rw [hm]; simp [cellsZ, piecesZ]
    simpa using this
  subst hL
  obtain ⟨a1, a2, rfl⟩ := RowsAt.form ho.reads.rows
  exact ⟨_, _, rfl, hb⟩

theorem lay_v0 : layZ [] ⟨[], [], []⟩ = (0, []) := by
  have h : (mayZ [] && mayRowsZ ⟨[], [], []⟩) = true := by decide
  have h2 : layOf [] ⟨[], [], []⟩ = (0, []) := by
    simp [layOf, layC, cellsZ, missC, minusC, othC, patC, meetC, mergeC]
  unfold layZ
  rw [if_pos h, h2]; rfl
theorem lay_v1 : (layZ [⟨16, 1, [1, 2]⟩] ⟨[⟨17, 1, [3]⟩], [], []⟩).1 = 17 := by decide
theorem lay_v2 : (layZ [⟨16, 1, [1, 2]⟩] ⟨[], [⟨17, 1, [3]⟩], []⟩).1 = 21 := by decide
theorem lay_v3 : layZ [⟨16, 1, [1, 2]⟩] ⟨[⟨17, 1, [2]⟩], [⟨17, 1, [3]⟩], []⟩ = (0, [⟨16, 1, [1, 3]⟩]) := by
  have h : (mayZ [⟨16, 1, [1, 2]⟩] && mayRowsZ ⟨[⟨17, 1, [2]⟩], [⟨17, 1, [3]⟩], []⟩) = true := by decide
  have h2 : layOf [⟨16, 1, [1, 2]⟩] ⟨[⟨17, 1, [2]⟩], [⟨17, 1, [3]⟩], []⟩ = (0, [⟨16, 1, 1⟩, ⟨17, 1, 3⟩]) := by
    have e0 : cellsZ [⟨16, 1, [1, 2]⟩] = [⟨16, 1, 1⟩, ⟨17, 1, 2⟩] := by decide
    have e1 : cellsZ [⟨17, 1, [2]⟩] = [⟨17, 1, 2⟩] := by decide
    have e2 : cellsZ [⟨17, 1, [3]⟩] = [⟨17, 1, 3⟩] := by decide
    have e3 : minusC [⟨16, 1, 1⟩, ⟨17, 1, 2⟩] [⟨17, 1, 2⟩] = [⟨16, 1, 1⟩] := by decide
    have e4 : patC [⟨16, 1, 1⟩] (cellsZ (List.map newM [])) = [⟨16, 1, 1⟩] := by decide
    have e5 : mergeC [⟨16, 1, 1⟩] [⟨17, 1, 3⟩] = [⟨16, 1, 1⟩, ⟨17, 1, 3⟩] := by simp [mergeC]
    unfold layOf layC
    simp only [e0, e1, e2, e3, e4, e5]
    rw [if_neg (by decide), if_neg (by decide), if_neg (by decide)]
  unfold layZ
  rw [if_pos h, h2]; rfl
/-- Lay at few rows. -/
theorem ni_lay (W : World) (v vl vg : Value) (L Ll Lg : List PzV) (hL : PzsAt W v L) (hl : PzsAt W vl Ll) (hg : PzsAt W vg Lg) (l1 : L.length ≤ 1) (l2 : Ll.length ≤ 1) (l3 : Lg.length ≤ 1) (hc : (cellsZ (L.map PzV.m)).length ≤ 20000) :
    Calls Tryz.prog 6 #[v, .agg #[vl, vg, .slice none 0 0]] W fun e w' => ∃ p n c M, e = .returned (.tuple #[.slice p n c, .int .i64 (layZ (L.map PzV.m) ⟨Ll.map PzV.m, Lg.map PzV.m, []⟩).1]) ∧ Below W.heap.size W w' ∧ PzsAt w' (.slice p n c) M ∧ M.map PzV.m = (layZ (L.map PzV.m) ⟨Ll.map PzV.m, Lg.map PzV.m, []⟩).2 := by
  refine (bd_lay W v vl vg _ L Ll Lg [] hL hl hg (PasAt.nilB W) (by simp) (by omega) (by omega) (by omega) (by simp) hc).mono ?_
  rintro e w' ⟨v', rfl, hb, M, ho, hm⟩
  obtain ⟨p, n, c, rfl⟩ := own_form ho.own
  exact ⟨p, n, c, M, rfl, hb, ho.reads, hm⟩
end Go.Proofs.YtjfkgdfmkofbmaaGreatDoor

namespace Go.Proofs.YtjfkgdfmkofbmaaGreatDoor
set_option linter.unusedSimpArgs false
set_option linter.unusedVariables false
open Go.RowKit

/-- Two slices that were made here, and Lay. -/
theorem ni_row (w : World) (a : Nat) (ha : a < 2 ^ 64) (l : List UInt8) (n : Nat) (hn : l.length = n) (hl : n ≤ 140737488355328) (cs : Array Value) (hcs : cs = (u8s l).toArray) :
    Calls Tryz.prog 7 #[.int .u64 (a : Int), .slice (some ⟨w.heap.size, 0, none⟩) n n] (w.alloc (.cells cs 5)) fun e w' => ∃ p c x, e = .returned (.slice p 1 c) ∧ Below w.heap.size w w' ∧ PzsAt w' (.slice p 1 c) [x] ∧ x.m = ⟨a, 1, l⟩ := by
  subst hn hcs
  have b1 : Below w.heap.size w (w.alloc (.cells (u8s l).toArray 5)) := (Below.refl _ _).alloc (Nat.le_refl _) _
  refine (lw_row _ a _ l ha (laidBS w l _ hl) ⟨_, _, rfl⟩).mono ?_
  rintro e w2 ⟨v2, x2, rfl, b2, p2, m2⟩
  obtain ⟨q1, q2, rfl⟩ := RowsAt.form p2.rows
  exact ⟨q1, q2, x2, rfl, b1.trans (b2.mono b1.size), p2, m2⟩

set_option maxHeartbeats 4000000 in
set_option maxRecDepth 8000 in
theorem ni_law (w : World) (hE : ET w) : Calls Tryz.prog 3 #[] w fun e w' => e = .returned (.bool true) ∧ Below w.heap.size w w' := by
  have HE := hid hE
  clear hE
  go_enter Tryz.func3, Tryz.ntmps3
  go_wp2_with fail
  refine (ni_of ni_mem0 w).mono ?_
  rintro e w1 ⟨p, q, r, c, d, f, rfl, b1⟩
  unfold besN
  have b2 : Below w1.heap.size w1 (w1.alloc (.cells #[.slice none 0 0, .slice none 0 0, .bool false, .slice none 0 0, .slice p 0 c, .slice q 0 d, .slice r 0 f, .slice none 0 0, .slice none 0 0, .bool false] 30)) := (Below.refl _ _).alloc (Nat.le_refl _) _
  have r2 : RowAt (w1.alloc (.cells #[.slice none 0 0, .slice none 0 0, .bool false, .slice none 0 0, .slice p 0 c, .slice q 0 d, .slice r 0 f, .slice none 0 0, .slice none 0 0, .bool false] 30)) w1.heap.size 30 #[.slice none 0 0, .slice none 0 0, .bool false, .slice none 0 0, .slice p 0 c, .slice q 0 d, .slice r 0 f, .slice none 0 0, .slice none 0 0, .bool false] := heap_alloc_new w1 _
  have H2 := hid (And.intro (b1.trans (b2.mono b1.size)) r2)
  clear b1 b2 r2
  go_upto_region 2 with fail
  generalize (w1.alloc (.cells #[.slice none 0 0, .slice none 0 0, .bool false, .slice none 0 0, .slice p 0 c, .slice q 0 d, .slice r 0 f, .slice none 0 0, .slice none 0 0, .bool false] 30)) = W2 at H2 ⊢
  go_wp2_with fail
  refine (ni_laid W2).mono ?_
  rintro e w3 ⟨p3, c3, rfl, b3⟩
  have H3 := hid (And.intro (H2.out.1.trans (b3.mono H2.out.1.size)) (RowAt.below H2.out.2 b3))
  clear b3
  go_wp2_with fail
  refine (ni_lay w3 _ _ _ [] [] [] (PzsAt.nil _) (PzsAt.nil _) (PzsAt.nil _) (by simp) (by simp) (by simp) (by simp [cellsZ])).mono ?_
  rintro e w4 ⟨p4, n4, c4, M4, rfl, b4, h4, m4⟩
  simp only [List.map_nil, lay_v0] at m4 ⊢
  have hn4 : n4 = 0 := by
    have hM : M4 = [] := by simpa using m4
    subst hM
    obtain ⟨a1, a2, e1⟩ := RowsAt.form h4.rows
    cases e1; rfl
  subst hn4
  have H4 := hid (And.intro (H3.out.1.trans (b4.mono H3.out.1.size)) (RowAt.below H3.out.2 b4))
  clear b4 h4 m4
  go_wp2_with fail
  refine (ni_row w4 16 (by decide) [1, 2] 2 rfl (by decide) _ rfl).mono ?_
  rintro e w5 ⟨p5, c5, x5, rfl, b5, h5, m5⟩
  have H5 := hid (And.intro (H4.out.1.trans (b5.mono H4.out.1.size)) (RowAt.below H4.out.2 b5))
  have P5 := hid (And.intro h5 m5)
  clear b5 h5 m5
  go_wp2_with fail
  refine (ni_row w5 17 (by decide) [3] 1 rfl (by decide) _ rfl).mono ?_
  rintro e w6 ⟨p6, c6, x6, rfl, b6, h6, m6⟩
  have H6 := hid (And.intro (H5.out.1.trans (b6.mono H5.out.1.size)) (RowAt.below H5.out.2 b6))
  replace P5 := hid (And.intro (P5.out.1.below b6) P5.out.2)
  have P6 := hid (And.intro h6 m6)
  clear b6 h6 m6
  go_wp2_with fail
  refine (ni_lay w6 _ _ _ [x5] [x6] [] P5.out.1 P6.out.1 (PzsAt.nil _) (by simp) (by simp) (by simp) (by simp only [List.map_cons, List.map_nil, P5.out.2]; decide)).mono ?_
  rintro e w7 ⟨p7, n7, c7, M7, rfl, b7, h7, m7⟩
  simp only [List.map_cons, List.map_nil, P5.out.2, P6.out.2] at m7 ⊢
  rw [lay_v1]
  have H7 := hid (And.intro (H6.out.1.trans (b7.mono H6.out.1.size)) (RowAt.below H6.out.2 b7))
  clear b7 h7 m7
  go_wp2_with fail
  clear P5 P6
  refine (ni_row w7 16 (by decide) [1, 2] 2 rfl (by decide) _ rfl).mono ?_
  rintro e w8 ⟨p8, c8, x8, rfl, b8, h8, m8⟩
  have H8 := hid (And.intro (H7.out.1.trans (b8.mono H7.out.1.size)) (RowAt.below H7.out.2 b8))
  have P8 := hid (And.intro h8 m8)
  clear b8 h8 m8
  go_wp2_with fail
  refine (ni_row w8 17 (by decide) [3] 1 rfl (by decide) _ rfl).mono ?_
  rintro e w9 ⟨p9, c9, x9, rfl, b9, h9, m9⟩
  have H9 := hid (And.intro (H8.out.1.trans (b9.mono H8.out.1.size)) (RowAt.below H8.out.2 b9))
  replace P8 := hid (And.intro (P8.out.1.below b9) P8.out.2)
  have P9 := hid (And.intro h9 m9)
  clear b9 h9 m9
  go_wp2_with fail
  refine (ni_lay w9 _ _ _ [x8] [] [x9] P8.out.1 (PzsAt.nil _) P9.out.1 (by simp) (by simp) (by simp) (by simp only [List.map_cons, List.map_nil, P8.out.2]; decide)).mono ?_
  rintro e w10 ⟨p10, n10, c10, M10, rfl, b10, h10, m10⟩
  simp only [List.map_cons, List.map_nil, P8.out.2, P9.out.2] at m10 ⊢
  rw [lay_v2]
  have H10 := hid (And.intro (H9.out.1.trans (b10.mono H9.out.1.size)) (RowAt.below H9.out.2 b10))
  clear b10 h10 m10
  go_wp2_with fail
  clear P8 P9
  refine (ni_row w10 16 (by decide) [1, 2] 2 rfl (by decide) _ rfl).mono ?_
  rintro e w11 ⟨p11, c11, x11, rfl, b11, h11, m11⟩
  have H11 := hid (And.intro (H10.out.1.trans (b11.mono H10.out.1.size)) (RowAt.below H10.out.2 b11))
  have P11 := hid (And.intro h11 m11)
  clear b11 h11 m11
  go_wp2_with fail
  refine (ni_row w11 17 (by decide) [2] 1 rfl (by decide) _ rfl).mono ?_
  rintro e w12 ⟨p12, c12, x12, rfl, b12, h12, m12⟩
  have H12 := hid (And.intro (H11.out.1.trans (b12.mono H11.out.1.size)) (RowAt.below H11.out.2 b12))
  replace P11 := hid (And.intro (P11.out.1.below b12) P11.out.2)
  have P12 := hid (And.intro h12 m12)
  clear b12 h12 m12
  go_wp2_with fail
  refine (ni_row w12 17 (by decide) [3] 1 rfl (by decide) _ rfl).mono ?_
  rintro e w13 ⟨p13, c13, x13, rfl, b13, h13, m13⟩
  have H13 := hid (And.intro (H12.out.1.trans (b13.mono H12.out.1.size)) (RowAt.below H12.out.2 b13))
  replace P11 := hid (And.intro (P11.out.1.below b13) P11.out.2)
  replace P12 := hid (And.intro (P12.out.1.below b13) P12.out.2)
  have P13 := hid (And.intro h13 m13)
  clear b13 h13 m13
  go_wp2_with fail
  refine (ni_lay w13 _ _ _ [x11] [x12] [x13] P11.out.1 P12.out.1 P13.out.1 (by simp) (by simp) (by simp) (by simp only [List.map_cons, List.map_nil, P11.out.2]; decide)).mono ?_
  rintro e w14 ⟨p14, n14, c14, M14, rfl, b14, h14, m14⟩
  simp only [List.map_cons, List.map_nil, P11.out.2, P12.out.2, P13.out.2] at m14 ⊢
  rw [lay_v3] at m14 ⊢
  dsimp only at m14 ⊢
  have H14 := hid (And.intro (H13.out.1.trans (b14.mono H13.out.1.size)) (RowAt.below H13.out.2 b14))
  have P14 := hid (And.intro h14 m14)
  clear b14 h14 m14
  go_wp2_with fail
  clear P11 P12 P13
  refine (ni_row w14 140737488355328 (by decide) [1] 1 rfl (by decide) _ rfl).mono ?_
  rintro e w15 ⟨p15, c15, x15, rfl, b15, h15, m15⟩
  have H15 := hid (And.intro (H14.out.1.trans (b15.mono H14.out.1.size)) (RowAt.below H14.out.2 b15))
  replace P14 := hid (And.intro (P14.out.1.below b15) P14.out.2)
  have P15 := hid (And.intro h15 m15)
  clear b15 h15 m15
  go_wp2_with fail
  have hbo : bothB [⟨140737488355328, 1, [1]⟩] [] = false := by decide
  have hmem := bd_mem w15 _ _ [x15] [] P15.out.1 (PzsAt.nil _) (by simp) (by simp) (by simp only [List.map_cons, List.map_nil, P15.out.2]; decide)
  simp only [List.map_cons, List.map_nil, P15.out.2, hbo, errZ] at hmem
  have HM := hid hmem
  clear hmem hbo
  refine HM.out.mono ?_
  clear HM
  rintro e w16 ⟨X, vl, vg, vp, Ll, Lg, Lp, rfl, b16, hv, -⟩
  obtain ⟨a1, a2, e1⟩ := RowsAt.form hv.l.reads.rows
  obtain ⟨a3, a4, e2⟩ := RowsAt.form hv.g.reads.rows
  obtain ⟨a5, a6, e3⟩ := RowsAt.form hv.p.reads.rows
  generalize Ll.length = nl at e1
  generalize Lg.length = ng at e2
  generalize Lp.length = np at e3
  subst e1 e2 e3
  have b17 : Below w16.heap.size w16 (w16.alloc (.cells #[.slice a1 nl a2, .slice a3 ng a4, .slice a5 np a6] 27)) := (Below.refl _ _).alloc (Nat.le_refl _) _
  have b17 := b16.trans (b17.mono b16.size)
  have H17 := hid (And.intro (H15.out.1.trans (b17.mono H15.out.1.size)) (And.intro (RowAt.below H15.out.2 b17) (And.intro (P14.out.1.below b17) P14.out.2)))
  clear b16 b17 hv P15
  go_upto_region 8 with fail
  generalize w16.alloc (.cells #[.slice a1 nl a2, .slice a3 ng a4, .slice a5 np a6] 27) = W17 at H17 ⊢
  have hj := fun j2 hs2 => ni_jobs W17 [97] (.agg j2) j2 rfl hs2 (HE.out.below HE.out.lt H17.out.1)
  go_wp2_with fail
  refine (hj _ ⟨_, _, _, _, _, _, rfl⟩).mono ?_
  clear hj
  rintro e w18 ⟨rfl, b18⟩
  unfold besN
  have hs : mkS [97] = ⟨#[97]⟩ := rfl
  rw [hs]
  clear hs
  obtain ⟨r20, hb20, hs20⟩ := alloc2X w18 (.cells #[.slice none 0 0, .slice none 0 0, .bool false, .slice none 0 0, .slice none 0 0, .slice none 0 0, .slice none 0 0, .slice none 0 0, .slice none 0 0, .bool false] 30) (.cells #[.int .i64 1, .string ⟨#[97]⟩, .int .i64 17] 47)
  have r19 : ((w18.alloc (.cells #[.slice none 0 0, .slice none 0 0, .bool false, .slice none 0 0, .slice none 0 0, .slice none 0 0, .slice none 0 0, .slice none 0 0, .slice none 0 0, .bool false] 30)).alloc (.cells #[.int .i64 1, .string ⟨#[97]⟩, .int .i64 17] 47)).heap[w18.heap.size]? = some (.cells #[.slice none 0 0, .slice none 0 0, .bool false, .slice none 0 0, .slice none 0 0, .slice none 0 0, .slice none 0 0, .slice none 0 0, .slice none 0 0, .bool false] 30 (0, 0)) := by
    rw [Lib.alloc_old (w18.alloc (.cells #[.slice none 0 0, .slice none 0 0, .bool false, .slice none 0 0, .slice none 0 0, .slice none 0 0, .slice none 0 0, .slice none 0 0, .slice none 0 0, .bool false] 30)) _ w18.heap.size (by simp)]
    exact heap_alloc_new w18 _
  have b20 := b18.trans (hb20.mono b18.size)
  have H20 := hid (And.intro (H17.out.1.trans (b20.mono H17.out.1.size)) (And.intro (RowAt.below H17.out.2.1 b20) (And.intro (H17.out.2.2.1.below b20) (And.intro H17.out.2.2.2 (And.intro (show RowAt _ w18.heap.size 30 #[.slice none 0 0, .slice none 0 0, .bool false, .slice none 0 0, .slice none 0 0, .slice none 0 0, .slice none 0 0, .slice none 0 0, .slice none 0 0, .bool false] from r19) (show RowAt _ (w18.heap.size + 1) 47 #[.int .i64 1, .string ⟨#[97]⟩, .int .i64 17] from r20))))))
  clear r19 r20 b20 hb20 hs20 b18
  have x0 : ((w18.alloc (.cells #[.slice none 0 0, .slice none 0 0, .bool false, .slice none 0 0, .slice none 0 0, .slice none 0 0, .slice none 0 0, .slice none 0 0, .slice none 0 0, .bool false] 30)).alloc (.cells #[.int .i64 1, .string ⟨#[97]⟩, .int .i64 17] 47)).cell? ⟨w1.heap.size, 0, none⟩ = some (.slice none 0 0) := H20.out.2.1.cell 0
  have x1 : ((w18.alloc (.cells #[.slice none 0 0, .slice none 0 0, .bool false, .slice none 0 0, .slice none 0 0, .slice none 0 0, .slice none 0 0, .slice none 0 0, .slice none 0 0, .bool false] 30)).alloc (.cells #[.int .i64 1, .string ⟨#[97]⟩, .int .i64 17] 47)).cell? ⟨w1.heap.size, 1, none⟩ = some (.slice none 0 0) := H20.out.2.1.cell 1
  have x2 : ((w18.alloc (.cells #[.slice none 0 0, .slice none 0 0, .bool false, .slice none 0 0, .slice none 0 0, .slice none 0 0, .slice none 0 0, .slice none 0 0, .slice none 0 0, .bool false] 30)).alloc (.cells #[.int .i64 1, .string ⟨#[97]⟩, .int .i64 17] 47)).cell? ⟨w1.heap.size, 2, none⟩ = some (.bool false) := H20.out.2.1.cell 2
  have x3 : ((w18.alloc (.cells #[.slice none 0 0, .slice none 0 0, .bool false, .slice none 0 0, .slice none 0 0, .slice none 0 0, .slice none 0 0, .slice none 0 0, .slice none 0 0, .bool false] 30)).alloc (.cells #[.int .i64 1, .string ⟨#[97]⟩, .int .i64 17] 47)).cell? ⟨w1.heap.size, 3, none⟩ = some (.slice none 0 0) := H20.out.2.1.cell 3
  have x4 : ((w18.alloc (.cells #[.slice none 0 0, .slice none 0 0, .bool false, .slice none 0 0, .slice none 0 0, .slice none 0 0, .slice none 0 0, .slice none 0 0, .slice none 0 0, .bool false] 30)).alloc (.cells #[.int .i64 1, .string ⟨#[97]⟩, .int .i64 17] 47)).cell? ⟨w1.heap.size, 4, none⟩ = some (.slice p 0 c) := H20.out.2.1.cell 4
  have x5 : ((w18.alloc (.cells #[.slice none 0 0, .slice none 0 0, .bool false, .slice none 0 0, .slice none 0 0, .slice none 0 0, .slice none 0 0, .slice none 0 0, .slice none 0 0, .bool false] 30)).alloc (.cells #[.int .i64 1, .string ⟨#[97]⟩, .int .i64 17] 47)).cell? ⟨w1.heap.size, 5, none⟩ = some (.slice q 0 d) := H20.out.2.1.cell 5
  have x6 : ((w18.alloc (.cells #[.slice none 0 0, .slice none 0 0, .bool false, .slice none 0 0, .slice none 0 0, .slice none 0 0, .slice none 0 0, .slice none 0 0, .slice none 0 0, .bool false] 30)).alloc (.cells #[.int .i64 1, .string ⟨#[97]⟩, .int .i64 17] 47)).cell? ⟨w1.heap.size, 6, none⟩ = some (.slice r 0 f) := H20.out.2.1.cell 6
  have x7 : ((w18.alloc (.cells #[.slice none 0 0, .slice none 0 0, .bool false, .slice none 0 0, .slice none 0 0, .slice none 0 0, .slice none 0 0, .slice none 0 0, .slice none 0 0, .bool false] 30)).alloc (.cells #[.int .i64 1, .string ⟨#[97]⟩, .int .i64 17] 47)).cell? ⟨w1.heap.size, 7, none⟩ = some (.slice none 0 0) := H20.out.2.1.cell 7
  have x8 : ((w18.alloc (.cells #[.slice none 0 0, .slice none 0 0, .bool false, .slice none 0 0, .slice none 0 0, .slice none 0 0, .slice none 0 0, .slice none 0 0, .slice none 0 0, .bool false] 30)).alloc (.cells #[.int .i64 1, .string ⟨#[97]⟩, .int .i64 17] 47)).cell? ⟨w1.heap.size, 8, none⟩ = some (.slice none 0 0) := H20.out.2.1.cell 8
  have x9 : ((w18.alloc (.cells #[.slice none 0 0, .slice none 0 0, .bool false, .slice none 0 0, .slice none 0 0, .slice none 0 0, .slice none 0 0, .slice none 0 0, .slice none 0 0, .bool false] 30)).alloc (.cells #[.int .i64 1, .string ⟨#[97]⟩, .int .i64 17] 47)).cell? ⟨w1.heap.size, 9, none⟩ = some (.bool false) := H20.out.2.1.cell 9
  clear H17 H15 P14
  go_wp2_with fail
  refine (ni_same _ p q r c d f).mono ?_
  rintro e w21 ⟨rfl, b21⟩
  clear x0 x1 x2 x3 x4 x5 x6 x7 x8 x9
  have H21 := hid (And.intro (H20.out.1.trans (b21.mono H20.out.1.size)) (And.intro (RowAt.below H20.out.2.1 b21) (And.intro (H20.out.2.2.1.below b21) (And.intro H20.out.2.2.2.1 (And.intro (RowAt.below H20.out.2.2.2.2.1 b21) (RowAt.below H20.out.2.2.2.2.2 b21))))))
  clear b21
  have x0 : w21.cell? ⟨w1.heap.size, 0, none⟩ = some (.slice none 0 0) := H21.out.2.1.cell 0
  have x1 : w21.cell? ⟨w1.heap.size, 1, none⟩ = some (.slice none 0 0) := H21.out.2.1.cell 1
  have x2 : w21.cell? ⟨w1.heap.size, 2, none⟩ = some (.bool false) := H21.out.2.1.cell 2
  have x3 : w21.cell? ⟨w1.heap.size, 3, none⟩ = some (.slice none 0 0) := H21.out.2.1.cell 3
  have x4 : w21.cell? ⟨w1.heap.size, 4, none⟩ = some (.slice p 0 c) := H21.out.2.1.cell 4
  have x5 : w21.cell? ⟨w1.heap.size, 5, none⟩ = some (.slice q 0 d) := H21.out.2.1.cell 5
  have x6 : w21.cell? ⟨w1.heap.size, 6, none⟩ = some (.slice r 0 f) := H21.out.2.1.cell 6
  have x7 : w21.cell? ⟨w1.heap.size, 7, none⟩ = some (.slice none 0 0) := H21.out.2.1.cell 7
  have x8 : w21.cell? ⟨w1.heap.size, 8, none⟩ = some (.slice none 0 0) := H21.out.2.1.cell 8
  have x9 : w21.cell? ⟨w1.heap.size, 9, none⟩ = some (.bool false) := H21.out.2.1.cell 9
  go_wp2_with fail
  refine (ni_lines w21 p q r c d f).mono ?_
  rintro e w22 ⟨rfl, b22⟩
  clear x0 x1 x2 x3 x4 x5 x6 x7 x8 x9
  have H22 := hid (And.intro (H21.out.1.trans (b22.mono H21.out.1.size)) (And.intro (RowAt.below H21.out.2.1 b22) (And.intro (H21.out.2.2.1.below b22) (And.intro H21.out.2.2.2.1 (And.intro (RowAt.below H21.out.2.2.2.2.1 b22) (RowAt.below H21.out.2.2.2.2.2 b22))))))
  clear b22
  go_wp2_with fail
  refine (ni_row w22 16 (by decide) [1, 3] 2 rfl (by decide) _ rfl).mono ?_
  rintro e w23 ⟨p23, c23, x23, rfl, b23, h23, m23⟩
  have P23 := hid (And.intro h23 m23)
  clear h23 m23
  have H23 := hid (And.intro (H22.out.1.trans (b23.mono H22.out.1.size)) (And.intro (RowAt.below H22.out.2.1 b23) (And.intro (H22.out.2.2.1.below b23) (And.intro H22.out.2.2.2.1 (And.intro (RowAt.below H22.out.2.2.2.2.1 b23) (RowAt.below H22.out.2.2.2.2.2 b23))))))
  clear b23
  have hm23 : M14.map PzV.m = [x23].map PzV.m := by rw [H23.out.2.2.2.1, List.map_cons, List.map_nil, P23.out.2]
  have hl14 : M14.length ≤ 1000000 := by have h := congrArg List.length H23.out.2.2.2.1; simp at h; omega
  have H23s := hid (br_same w23 _ _ M14 [x23] H23.out.2.2.1 P23.out.1 hm23 hl14)
  clear hm23 hl14
  go_wp2_with fail
  refine H23s.out.mono ?_
  rintro e w24 ⟨rfl, b24⟩
  clear H23s P23
  have H24 := hid (And.intro (H23.out.1.trans (b24.mono H23.out.1.size)) (And.intro (RowAt.below H23.out.2.1 b24) (And.intro (H23.out.2.2.1.below b24) (And.intro H23.out.2.2.2.1 (And.intro (RowAt.below H23.out.2.2.2.2.1 b24) (RowAt.below H23.out.2.2.2.2.2 b24))))))
  clear b24
  have f0 : w24.cell? ⟨w18.heap.size + 1, 0, none⟩ = some (.int .i64 1) := H24.out.2.2.2.2.2.cell 0
  have f1 : w24.cell? ⟨w18.heap.size + 1, 1, none⟩ = some (.string ⟨#[97]⟩) := H24.out.2.2.2.2.2.cell 1
  have f2 : w24.cell? ⟨w18.heap.size + 1, 2, none⟩ = some (.int .i64 17) := H24.out.2.2.2.2.2.cell 2
  have x0 : w24.cell? ⟨w18.heap.size, 0, none⟩ = some (.slice none 0 0) := H24.out.2.2.2.2.1.cell 0
  have x1 : w24.cell? ⟨w18.heap.size, 1, none⟩ = some (.slice none 0 0) := H24.out.2.2.2.2.1.cell 1
  have x2 : w24.cell? ⟨w18.heap.size, 2, none⟩ = some (.bool false) := H24.out.2.2.2.2.1.cell 2
  have x3 : w24.cell? ⟨w18.heap.size, 3, none⟩ = some (.slice none 0 0) := H24.out.2.2.2.2.1.cell 3
  have x4 : w24.cell? ⟨w18.heap.size, 4, none⟩ = some (.slice none 0 0) := H24.out.2.2.2.2.1.cell 4
  have x5 : w24.cell? ⟨w18.heap.size, 5, none⟩ = some (.slice none 0 0) := H24.out.2.2.2.2.1.cell 5
  have x6 : w24.cell? ⟨w18.heap.size, 6, none⟩ = some (.slice none 0 0) := H24.out.2.2.2.2.1.cell 6
  have x7 : w24.cell? ⟨w18.heap.size, 7, none⟩ = some (.slice none 0 0) := H24.out.2.2.2.2.1.cell 7
  have x8 : w24.cell? ⟨w18.heap.size, 8, none⟩ = some (.slice none 0 0) := H24.out.2.2.2.2.1.cell 8
  have x9 : w24.cell? ⟨w18.heap.size, 9, none⟩ = some (.bool false) := H24.out.2.2.2.2.1.cell 9
  go_wp2_with fail
  refine (ni_same w24 none none none 0 0 0).mono ?_
  rintro e w25 ⟨rfl, b25⟩
  clear x0 x1 x2 x3 x4 x5 x6 x7 x8 x9
  clear f0 f1 f2
  have H25 := hid (And.intro (H24.out.1.trans (b25.mono H24.out.1.size)) (And.intro (RowAt.below H24.out.2.1 b25) (And.intro (H24.out.2.2.1.below b25) (And.intro H24.out.2.2.2.1 (And.intro (RowAt.below H24.out.2.2.2.2.1 b25) (RowAt.below H24.out.2.2.2.2.2 b25))))))
  clear b25
  go_wp2_with fail
  refine (ni_image w25).mono ?_
  rintro e w26 ⟨rfl, b26⟩
  have H26 := hid (And.intro (H25.out.1.trans (b26.mono H25.out.1.size)) (And.intro (RowAt.below H25.out.2.1 b26) (And.intro (H25.out.2.2.1.below b26) (And.intro H25.out.2.2.2.1 (And.intro (RowAt.below H25.out.2.2.2.2.1 b26) (RowAt.below H25.out.2.2.2.2.2 b26))))))
  clear b26
  go_wp2_with fail
  refine (lw_known w26).mono ?_
  rintro e w27 ⟨rfl, b27⟩
  go_wp2_with fail
  exact bodyPost_ret (v := .bool true) (by simp [results, Tryz.results3, go_sem]) rfl ⟨rfl, H26.out.1.trans (b27.mono H26.out.1.size)⟩
end Go.Proofs.YtjfkgdfmkofbmaaGreatDoor
