/- A row of one piece: row. -/
import Derived.Test.YtjfkgdfmkofbmaaGreatDoorZBpV
import Derived.Test.YtjfkgdfmkofbmaaGreatDoorZBrB
import Derived.Test.YtjfkgdfmkofbmaaGreatDoorZRnd
namespace Go.Proofs.YtjfkgdfmkofbmaaGreatDoor
set_option linter.unusedSimpArgs false
set_option linter.unusedVariables false
open Go.RowKit

theorem PzsAt.one (w : World) (t : TypeId) (x : PzV) (h : BS w x.sl x.bytes) (ha : x.at_ < 2 ^ 64) : PzsAt (w.alloc (.cells x.cells.toArray t)) (.slice (some ⟨w.heap.size, 0, none⟩) 1 1) [x] := by
  refine ⟨⟨_, _, rfl, Nat.le_refl _, by decide, fun _ => ⟨w.heap.size, 0, rfl, fun i y hy j u hu => ?_⟩⟩, fun y hy => ?_, fun y hy => ?_⟩
  · cases i with
    | zero =>
      simp at hy; subst hy
      rw [show 0 + 0 * 3 + j = j by omega, cell_of_row _ _ j _ _ _ (heap_alloc_new w _)]
      simpa using hu
    | succ i => simp at hy
  · rw [List.mem_singleton] at hy; subst hy
    exact h.below ((Below.refl _ _).alloc (Nat.le_refl _) _)
  · rw [List.mem_singleton] at hy; subst hy
    exact ha

set_option maxRecDepth 8000 in
theorem lw_row (w : World) (a : Nat) (v : Value) (bs : List UInt8) (ha : a < 2 ^ 64) (h : BS w v bs) (hne : ∃ p c, v = .slice p bs.length c) :
    Calls Tryz.prog 7 #[.int .u64 (a : Int), v] w fun e w' => ∃ v' x, e = .returned v' ∧ Below w.heap.size w w' ∧ PzsAt w' v' [x] ∧ x.m = ⟨a, 1, bs⟩ := by
  obtain ⟨p, c, rfl⟩ := hne
  have hp := PzsAt.one w 74 ⟨a, 1, p, c, bs⟩ h ha
  obtain ⟨n, hn⟩ : ∃ n, n = bs.length := ⟨_, rfl⟩
  rw [← hn]
  have hp : PzsAt (w.alloc (.cells #[.int .u64 (a : Int), .int .i64 1, .slice p n c] 74)) (.slice (some ⟨w.heap.size, 0, none⟩) 1 1) [⟨a, 1, p, c, bs⟩] := by rw [hn]; exact hp
  have H := hid hp
  clear h ha hn hp
  go_enter Tryz.func7, Tryz.ntmps7
  go_wp2_with fail
  refine bodyPost_ret (v := .slice (some ⟨w.heap.size, 0, none⟩) 1 1) (by simp [results, Tryz.results7, go_sem]) rfl ?_
  exact ⟨_, _, rfl, (Below.refl _ _).alloc (Nat.le_refl _) _, H.out, rfl⟩
end Go.Proofs.YtjfkgdfmkofbmaaGreatDoor

namespace Go.Proofs.YtjfkgdfmkofbmaaGreatDoor
set_option linter.unusedSimpArgs false
set_option linter.unusedVariables false
open Go.RowKit

theorem laidBS (w : World) (l : List UInt8) (t : TypeId) (hl : l.length ≤ 140737488355328) : BS (w.alloc (.cells (u8s l).toArray t)) (.slice (some ⟨w.heap.size, 0, none⟩) l.length l.length) l := (OB.laid w (e := t) l hl).bs hl
theorem PasAt.one (w : World) (t : TypeId) (x : PaV) (h1 : BS w x.s1 x.old) (h2 : BS w x.s2 x.new) : PasAt (w.alloc (.cells x.cells.toArray t)) (.slice (some ⟨w.heap.size, 0, none⟩) 1 1) [x] := by
  refine ⟨⟨_, _, rfl, Nat.le_refl _, by decide, fun _ => ⟨w.heap.size, 0, rfl, fun i y hy j u hu => ?_⟩⟩, fun y hy => ?_, fun y hy => ?_⟩
  · cases i with
    | zero =>
      simp at hy; subst hy
      rw [show 0 + 0 * 3 + j = j by omega, cell_of_row _ _ j _ _ _ (heap_alloc_new w _)]
      simpa using hu
    | succ i => simp at hy
  · rw [List.mem_singleton] at hy; subst hy
    exact h1.below ((Below.refl _ _).alloc (Nat.le_refl _) _)
  · rw [List.mem_singleton] at hy; subst hy
    exact h2.below ((Below.refl _ _).alloc (Nat.le_refl _) _)
theorem oneBS (w : World) (z : Int) (b : UInt8) (hz : z = (b.toNat : Int)) (t : TypeId) : BS (w.alloc (.cells #[.int .u8 z] t)) (.slice (some ⟨w.heap.size, 0, none⟩) 1 1) [b] := by subst hz; exact laidBS w [b] t (by simp)
theorem arr26 {α : Type} {a : Array α} (h : a.size = 26) : ∃ x0 x1 x2 x3 x4 x5 x6 x7 x8 x9 x10 x11 x12 x13 x14 x15 x16 x17 x18 x19 x20 x21 x22 x23 x24 x25, a = #[x0, x1, x2, x3, x4, x5, x6, x7, x8, x9, x10, x11, x12, x13, x14, x15, x16, x17, x18, x19, x20, x21, x22, x23, x24, x25] := by
  obtain ⟨l⟩ := a
  simp only [List.size_toArray] at h
  rcases l with _ | ⟨x0, l⟩
  · simp at h
  rcases l with _ | ⟨x1, l⟩
  · simp at h
  rcases l with _ | ⟨x2, l⟩
  · simp at h
  rcases l with _ | ⟨x3, l⟩
  · simp at h
  rcases l with _ | ⟨x4, l⟩
  · simp at h
  rcases l with _ | ⟨x5, l⟩
  · simp at h
  rcases l with _ | ⟨x6, l⟩
  · simp at h
  rcases l with _ | ⟨x7, l⟩
  · simp at h
  rcases l with _ | ⟨x8, l⟩
  · simp at h
  rcases l with _ | ⟨x9, l⟩
  · simp at h
  rcases l with _ | ⟨x10, l⟩
  · simp at h
  rcases l with _ | ⟨x11, l⟩
  · simp at h
  rcases l with _ | ⟨x12, l⟩
  · simp at h
  rcases l with _ | ⟨x13, l⟩
  · simp at h
  rcases l with _ | ⟨x14, l⟩
  · simp at h
  rcases l with _ | ⟨x15, l⟩
  · simp at h
  rcases l with _ | ⟨x16, l⟩
  · simp at h
  rcases l with _ | ⟨x17, l⟩
  · simp at h
  rcases l with _ | ⟨x18, l⟩
  · simp at h
  rcases l with _ | ⟨x19, l⟩
  · simp at h
  rcases l with _ | ⟨x20, l⟩
  · simp at h
  rcases l with _ | ⟨x21, l⟩
  · simp at h
  rcases l with _ | ⟨x22, l⟩
  · simp at h
  rcases l with _ | ⟨x23, l⟩
  · simp at h
  rcases l with _ | ⟨x24, l⟩
  · simp at h
  rcases l with _ | ⟨x25, l⟩
  · simp at h
  rcases l with _ | ⟨y, l⟩
  · exact ⟨x0, x1, x2, x3, x4, x5, x6, x7, x8, x9, x10, x11, x12, x13, x14, x15, x16, x17, x18, x19, x20, x21, x22, x23, x24, x25, rfl⟩
  · simp at h
theorem fromI {T : Nat → Value → World → Prop} {ops : Array Oper} {o : Oper} {b : Act} {W : World} (h : ∀ e ∈ o.after, Region.binds .any e = true → ∀ p d, ops[e.on]? = some p → p.dst = some d → T e.on (b.eval (.tmp d)) W) (j : Nat) {p : Oper} {d : Nat}
    (hj : (o.after.toList.any fun e => e.on == j && Region.binds .any e) = true) (hp : ops[j]? = some p) (hd : p.dst = some d) : T j (b.eval (.tmp d)) W := by
  rw [List.any_eq_true] at hj
  obtain ⟨e, he, h2⟩ := hj
  simp only [Bool.and_eq_true, beq_iff_eq] at h2
  obtain ⟨h3, h4⟩ := h2
  subst h3
  exact h e (by simpa using he) h4 p d hp hd

def RK : Rz := ⟨[⟨16, 1, [1]⟩], [⟨19, 1, [7]⟩], [⟨18, [3], [9]⟩]⟩
def oneB (b : UInt8) (v : Value) (W : World) : Prop := ∃ p c, v = .slice p 1 c ∧ BS W v [b]
def onePz (z : Pz) (v : Value) (W : World) : Prop := ∃ x, PzsAt W v [x] ∧ x.m = z
/-- What each operation of known's last line gives. -/
def TK : Nat → Value → World → Prop
  | 0, v, _ => v = .int .i64 0
  | 3, v, W => ∃ vl vg vp Ll Lg Lp, v = .agg #[vl, vg, vp] ∧ PzsAt W vl Ll ∧ PzsAt W vg Lg ∧ PasAt W vp Lp ∧ rzV Ll Lg Lp = RK
  | 4, v, W => oneB 1 v W
  | 5, v, W => onePz ⟨16, 1, [1]⟩ v W
  | 6, v, W => oneB 7 v W
  | 7, v, W => onePz ⟨19, 1, [7]⟩ v W
  | 8, v, W => oneB 3 v W
  | 9, v, W => oneB 9 v W
  | 10, v, W => ∃ p1 c1 p2 c2, v = .agg #[.int .u64 18, .slice p1 1 c1, .slice p2 1 c2] ∧ BS W (.slice p1 1 c1) [3] ∧ BS W (.slice p2 1 c2) [9]
  | 11, v, W => ∃ x : PaV, PasAt W v [x] ∧ x.m = ⟨18, [3], [9]⟩
  | 12, v, W => ∃ vl vg vp a g q, v = .agg #[vl, vg, vp] ∧ PzsAt W vl [a] ∧ PzsAt W vg [g] ∧ PasAt W vp [q] ∧ rzV [a] [g] [q] = RK
  | _, v, _ => v = .bool true
theorem TK.stable (j : Nat) (v : Value) (w w' : World) (h : TK j v w) (hb : Below w.heap.size w w') : TK j v w' := by
  have o1 : ∀ b, oneB b v w → oneB b v w' := fun b ⟨p, c, e, h⟩ => ⟨p, c, e, h.below hb⟩
  have o2 : ∀ z, onePz z v w → onePz z v w' := fun z ⟨x, h, e⟩ => ⟨x, h.below hb, e⟩
  match j, h with
  | 0, h => exact h
  | 1, h => exact h
  | 2, h => exact h
  | 3, ⟨vl, vg, vp, Ll, Lg, Lp, e, h1, h2, h3, h4⟩ => exact ⟨vl, vg, vp, Ll, Lg, Lp, e, h1.below hb, h2.below hb, h3.below hb, h4⟩
  | 4, h => exact o1 _ h
  | 5, h => exact o2 _ h
  | 6, h => exact o1 _ h
  | 7, h => exact o2 _ h
  | 8, h => exact o1 _ h
  | 9, h => exact o1 _ h
  | 10, ⟨p1, c1, p2, c2, e, h1, h2⟩ => exact ⟨p1, c1, p2, c2, e, h1.below hb, h2.below hb⟩
  | 11, ⟨x, h, e⟩ => exact ⟨x, h.below hb, e⟩
  | 12, ⟨vl, vg, vp, a, g, q, e, h1, h2, h3, h4⟩ => exact ⟨vl, vg, vp, a, g, q, e, h1.below hb, h2.below hb, h3.below hb, h4⟩
  | j + 13, h => exact h

theorem row_mem : rowsZ [⟨16, 1, [1, 2, 3]⟩] [⟨17, 1, [2, 9, 7]⟩] = RK ∧ bothB [⟨16, 1, [1, 2, 3]⟩] [⟨17, 1, [2, 9, 7]⟩] = true := by
  have h : bothB [⟨16, 1, [1, 2, 3]⟩] [⟨17, 1, [2, 9, 7]⟩] = true := by decide
  refine ⟨?_, h⟩
  unfold rowsZ
  rw [if_pos h]
  simp [memZ, mergeR, cellsZ, Pz.cells, cellsAt, piecesZ, pushC, pushD, RK, Pz.end_]

set_option maxHeartbeats 4000000 in
set_option maxRecDepth 8000 in
theorem lw_known (w : World) : Calls Tryz.prog 14 #[] w fun e w' => e = .returned (.bool true) ∧ Below w.heap.size w w' := by
  go_enter Tryz.func14, Tryz.ntmps14
  go_wp2_with fail
  have b1 : Below w.heap.size w (w.alloc (.cells #[.int .u8 1, .int .u8 2, .int .u8 3] 5)) := (Below.refl _ _).alloc (Nat.le_refl _) _
  have s1 : BS (w.alloc (.cells #[.int .u8 1, .int .u8 2, .int .u8 3] 5)) (.slice (some ⟨w.heap.size, 0, none⟩) 3 3) [1, 2, 3] := laidBS w [1, 2, 3] _ (by simp)
  refine (lw_row _ 16 _ [1, 2, 3] (by decide) s1 ⟨_, _, rfl⟩).mono ?_
  rintro e w2 ⟨v2, x2, rfl, b2, p2, m2⟩
  obtain ⟨q1, q2, rfl⟩ := RowsAt.form p2.rows
  have b2 := b1.trans (b2.mono b1.size)
  have H2 := hid (And.intro b2 (And.intro p2 m2))
  clear b1 s1 b2 p2 m2
  go_wp2_with fail
  have b3 : Below w2.heap.size w2 (w2.alloc (.cells #[.int .u8 2, .int .u8 9, .int .u8 7] 5)) := (Below.refl _ _).alloc (Nat.le_refl _) _
  have s3 : BS (w2.alloc (.cells #[.int .u8 2, .int .u8 9, .int .u8 7] 5)) (.slice (some ⟨w2.heap.size, 0, none⟩) 3 3) [2, 9, 7] := laidBS w2 [2, 9, 7] _ (by simp)
  refine (lw_row _ 17 _ [2, 9, 7] (by decide) s3 ⟨_, _, rfl⟩).mono ?_
  rintro e w4 ⟨v4, x4, rfl, b4, p4, m4⟩
  obtain ⟨q3, q4, rfl⟩ := RowsAt.form p4.rows
  have b4 := b3.trans (b4.mono b3.size)
  have H4 := hid (And.intro (H2.out.1.trans (b4.mono H2.out.1.size)) (And.intro (H2.out.2.1.below b4) (And.intro p4 m4)))
  clear b3 s3 b4 p4 m4
  go_wp2_with fail
  have hmem := bd_mem w4 _ _ [x2] [x4] H4.out.2.1 H4.out.2.2.1 (by simp) (by simp) (by simp only [List.map_cons, List.map_nil, H2.out.2.2]; decide)
  simp only [List.map_cons, List.map_nil, H2.out.2.2, H4.out.2.2.2, row_mem.1, row_mem.2, errZ, if_true] at hmem
  refine hmem.mono ?_
  clear hmem
  rintro e w5 ⟨X, vl, vg, vp, Ll, Lg, Lp, rfl, b5, hv, hrz⟩
  have r5 : PzsAt w5 vl Ll ∧ PzsAt w5 vg Lg ∧ PasAt w5 vp Lp := ⟨hv.l.reads, hv.g.reads, hv.p.reads⟩
  obtain ⟨a1, a2, e1⟩ := RowsAt.form r5.1.rows
  obtain ⟨a3, a4, e2⟩ := RowsAt.form r5.2.1.rows
  obtain ⟨a5, a6, e3⟩ := RowsAt.form r5.2.2.rows
  obtain ⟨nl, hnl⟩ : ∃ n, n = Ll.length := ⟨_, rfl⟩
  obtain ⟨ng, hng⟩ : ∃ n, n = Lg.length := ⟨_, rfl⟩
  obtain ⟨np, hnp⟩ : ∃ n, n = Lp.length := ⟨_, rfl⟩
  rw [← hnl] at e1
  rw [← hng] at e2
  rw [← hnp] at e3
  subst e1 e2 e3
  have b5 := H4.out.1.trans (b5.mono H4.out.1.size)
  have H5 := hid (And.intro b5 (And.intro r5 hrz))
  clear b5 hv r5 hrz hnl hng hnp
  go_upto_region 2 with fail
  obtain ⟨V, hV⟩ : ∃ V, V = w5.alloc (.cells #[.slice a1 nl a2, .slice a3 ng a4, .slice a5 np a6] 27) := ⟨_, rfl⟩
  have b6 : Below w5.heap.size w5 V := by rw [hV]; exact (Below.refl _ _).alloc (Nat.le_refl _) _
  have r6 : RowAt V w5.heap.size 27 #[.slice a1 nl a2, .slice a3 ng a4, .slice a5 np a6] := by rw [hV]; exact heap_alloc_new w5 _
  rw [← hV]
  have H6 := hid (And.intro (H5.out.1.trans (b6.mono H5.out.1.size)) (And.intro r6 (And.intro (H5.out.2.1.1.below b6) (And.intro (H5.out.2.1.2.1.below b6) (And.intro (H5.out.2.1.2.2.below b6) H5.out.2.2)))))
  clear hV b6 r6
  refine regionI TK [1, 2] 26 (by kernel_rfl) rfl (by kernel_rfl) TK.stable (fun i o r ho b W h1 hbd h3 h4 h5 K' hK => ?_) (fun b W h1 h2 h3 h4 h5 => ?_)
  · obtain ⟨bt, bd⟩ := b
    obtain ⟨x0, x1, x2, x3, x4, x5, x6, x7, x8, x9, x10, x11, x12, x13, x14, x15, x16, x17, x18, x19, x20, x21, x22, x23, x24, x25, rfl⟩ := arr26 h1
    have k1 : x1 = .pointer (some ⟨w5.heap.size, 0, none⟩) := h5 1 (by simp)
    have k2 : x2 = .int .i64 0 := h5 2 (by simp)
    subst k1 k2
    have h6 := H6.out.2.1.below h3
    rcases i with _ | _ | _ | _ | _ | _ | _ | _ | _ | _ | _ | _ | _ | _ | _ | _ | i
    · have ho := (List.cons.inj ho).1; subst ho
      go_simp
      exact hK (.int .i64 0) W (Below.refl _ _) rfl
    · have ho := (List.cons.inj ho).1; subst ho
      have q0 : x11 = .int .i64 0 := fromI h4 0 rfl rfl rfl
      subst q0
      go_simp
      exact hK (.bool true) W (Below.refl _ _) rfl
    · have ho := (List.cons.inj ho).1; subst ho
      have q0 : x12 = .bool true := fromI h4 1 rfl rfl rfl
      subst q0
      go_simp
      exact hK (.bool true) W (Below.refl _ _) rfl
    · have ho := (List.cons.inj ho).1; subst ho
      have q2 : x13 = .bool true := fromI h4 2 rfl rfl rfl
      subst q2
      have z0 : W.cell? ⟨w5.heap.size, 0, none⟩ = some (.slice a1 nl a2) := h6.cell 0
      have z1 : W.cell? ⟨w5.heap.size, 1, none⟩ = some (.slice a3 ng a4) := h6.cell 1
      have z2 : W.cell? ⟨w5.heap.size, 2, none⟩ = some (.slice a5 np a6) := h6.cell 2
      go_simp
      exact hK (.agg #[.slice a1 nl a2, .slice a3 ng a4, .slice a5 np a6]) W (Below.refl _ _) ⟨_, _, _, _, _, _, rfl, H6.out.2.2.1.below h3, H6.out.2.2.2.1.below h3, H6.out.2.2.2.2.1.below h3, H6.out.2.2.2.2.2⟩
    · have ho := (List.cons.inj ho).1; subst ho
      have q2 : x13 = .bool true := fromI h4 2 rfl rfl rfl
      subst q2
      go_simp
      exact hK (.slice (some ⟨W.heap.size, 0, none⟩) 1 1) _ ((Below.refl _ _).alloc (Nat.le_refl _) _) ⟨_, _, rfl, oneBS W 1 1 rfl _⟩
    · have ho := (List.cons.inj ho).1; subst ho
      have q2 : x13 = .bool true := fromI h4 2 rfl rfl rfl
      subst q2
      obtain ⟨p, c, e, hb⟩ : oneB 1 x15 W := fromI h4 4 rfl rfl rfl
      subst e
      go_simp
      refine (lw_row _ 16 _ [1] (by decide) hb ⟨_, _, rfl⟩).mono ?_
      rintro e w7 ⟨v7, x7, rfl, b7, p7, m7⟩
      exact hK v7 w7 b7 ⟨_, p7, m7⟩
    · have ho := (List.cons.inj ho).1; subst ho
      have q2 : x13 = .bool true := fromI h4 2 rfl rfl rfl
      subst q2
      go_simp
      exact hK (.slice (some ⟨W.heap.size, 0, none⟩) 1 1) _ ((Below.refl _ _).alloc (Nat.le_refl _) _) ⟨_, _, rfl, oneBS W 7 7 rfl _⟩
    · have ho := (List.cons.inj ho).1; subst ho
      have q2 : x13 = .bool true := fromI h4 2 rfl rfl rfl
      subst q2
      obtain ⟨p, c, e, hb⟩ : oneB 7 x17 W := fromI h4 6 rfl rfl rfl
      subst e
      go_simp
      refine (lw_row _ 19 _ [7] (by decide) hb ⟨_, _, rfl⟩).mono ?_
      rintro e w7 ⟨v7, x7, rfl, b7, p7, m7⟩
      exact hK v7 w7 b7 ⟨_, p7, m7⟩
    · have ho := (List.cons.inj ho).1; subst ho
      have q2 : x13 = .bool true := fromI h4 2 rfl rfl rfl
      subst q2
      go_simp
      exact hK (.slice (some ⟨W.heap.size, 0, none⟩) 1 1) _ ((Below.refl _ _).alloc (Nat.le_refl _) _) ⟨_, _, rfl, oneBS W 3 3 rfl _⟩
    · have ho := (List.cons.inj ho).1; subst ho
      have q2 : x13 = .bool true := fromI h4 2 rfl rfl rfl
      subst q2
      go_simp
      exact hK (.slice (some ⟨W.heap.size, 0, none⟩) 1 1) _ ((Below.refl _ _).alloc (Nat.le_refl _) _) ⟨_, _, rfl, oneBS W 9 9 rfl _⟩
    · have ho := (List.cons.inj ho).1; subst ho
      have q2 : x13 = .bool true := fromI h4 2 rfl rfl rfl
      subst q2
      obtain ⟨p1, c1, e1, hb1⟩ : oneB 3 x19 W := fromI h4 8 rfl rfl rfl
      obtain ⟨p2, c2, e2, hb2⟩ : oneB 9 x20 W := fromI h4 9 rfl rfl rfl
      subst e1 e2
      go_simp
      exact hK (.agg #[.int .u64 18, .slice p1 1 c1, .slice p2 1 c2]) W (Below.refl _ _) ⟨_, _, _, _, rfl, hb1, hb2⟩
    · have ho := (List.cons.inj ho).1; subst ho
      have q2 : x13 = .bool true := fromI h4 2 rfl rfl rfl
      subst q2
      obtain ⟨p1, c1, p2, c2, e1, hb1, hb2⟩ : TK 10 x21 W := fromI h4 10 rfl rfl rfl
      subst e1
      go_simp
      exact hK (.slice (some ⟨W.heap.size, 0, none⟩) 1 1) _ ((Below.refl _ _).alloc (Nat.le_refl _) _) ⟨⟨18, p1, c1, [3], p2, c2, [9]⟩, PasAt.one W _ ⟨18, p1, c1, [3], p2, c2, [9]⟩ hb1 hb2, rfl⟩
    · have ho := (List.cons.inj ho).1; subst ho
      have q2 : x13 = .bool true := fromI h4 2 rfl rfl rfl
      subst q2
      obtain ⟨y1, hp1, hm1⟩ : onePz ⟨16, 1, [1]⟩ x16 W := fromI h4 5 rfl rfl rfl
      obtain ⟨y2, hp2, hm2⟩ : onePz ⟨19, 1, [7]⟩ x18 W := fromI h4 7 rfl rfl rfl
      obtain ⟨y3, hp3, hm3⟩ : TK 11 x22 W := fromI h4 11 rfl rfl rfl
      obtain ⟨p1, c1, e1⟩ := RowsAt.form hp1.rows
      obtain ⟨p2, c2, e2⟩ := RowsAt.form hp2.rows
      obtain ⟨p3, c3, e3⟩ := RowsAt.form hp3.rows
      subst e1 e2 e3
      go_simp
      exact hK (.agg #[.slice p1 1 c1, .slice p2 1 c2, .slice p3 1 c3]) W (Below.refl _ _) ⟨_, _, _, _, _, _, rfl, hp1, hp2, hp3, by simp only [rzV, List.map_cons, List.map_nil, hm1, hm2, hm3]; rfl⟩
    · have ho := (List.cons.inj ho).1; subst ho
      have q2 : x13 = .bool true := fromI h4 2 rfl rfl rfl
      subst q2
      obtain ⟨vl, vg, vp, Ml, Mg, Mp, e1, hl1, hg1, hp1, hr1⟩ : TK 3 x14 W := fromI h4 3 rfl rfl rfl
      obtain ⟨ul, ug, up, y1, y2, y3, e2, hl2, hg2, hp2, hr2⟩ : TK 12 x23 W := fromI h4 12 rfl rfl rfl
      subst e1 e2
      have hlen : Ml.length ≤ 1000000 ∧ Mg.length ≤ 1000000 ∧ Mp.length ≤ 1000000 := by
        have h7 := congrArg (fun r : Rz => (r.lost.length, r.gained.length, r.patches.length)) hr1
        simp [rzV, RK] at h7
        omega
      go_simp
      refine (br_rows W vl vg vp ul ug up Ml Mg [y1] [y2] Mp [y3] hl1 hg1 hp1 hl2 hg2 hp2 (hr1.trans hr2.symm) hlen.1 hlen.2.1 hlen.2.2).mono ?_
      rintro e w7 ⟨rfl, b7⟩
      exact hK (.bool true) w7 b7 rfl
    · have ho := (List.cons.inj ho).1; subst ho
      have q2 : x13 = .bool true := fromI h4 2 rfl rfl rfl
      have q3 : x24 = .bool true := fromI h4 13 rfl rfl rfl
      subst q2 q3
      go_simp
      exact hK (.bool true) W (Below.refl _ _) rfl
    · have ho := (List.cons.inj ho).1; subst ho
      have q3 : x25 = .bool true := fromI h4 14 rfl rfl rfl
      subst q3
      go_simp
      exact hK (.bool true) W (Below.refl _ _) rfl
    · exact absurd ho (by simp)
  · obtain ⟨bt, bd⟩ := b
    obtain ⟨x0, x1, x2, x3, x4, x5, x6, x7, x8, x9, x10, x11, x12, x13, x14, x15, x16, x17, x18, x19, x20, x21, x22, x23, x24, x25, rfl⟩ := arr26 h1
    have q : x0 = .bool true := h4 15 _ 0 rfl rfl
    subst q
    go_wp2_with fail
    refine bodyPost_ret (v := .bool true) (by simp [results, Tryz.results14, go_sem]) rfl ?_
    exact ⟨rfl, H6.out.1.trans (h3.mono H6.out.1.size)⟩
end Go.Proofs.YtjfkgdfmkofbmaaGreatDoor
