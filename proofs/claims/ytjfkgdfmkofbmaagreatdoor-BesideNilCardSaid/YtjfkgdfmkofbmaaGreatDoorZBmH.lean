/- Rows laid on a memory: Lay. -/
import Derived.Test.YtjfkgdfmkofbmaaGreatDoorZBmG
namespace Go.Proofs.YtjfkgdfmkofbmaaGreatDoor
set_option linter.unusedSimpArgs false
set_option linter.unusedVariables false
open Go.RowKit
attribute [local go_sem] Oper.semAt_some undef

/-- Rows laid on a memory. -/
def layOf (l : List Pz) (x : Rz) : Int × List Cz := layC (cellsZ l) (cellsZ x.lost) (cellsZ x.gained) (cellsZ (x.patches.map oldM)) (cellsZ (x.patches.map newM))
def layZ (l : List Pz) (x : Rz) : Int × List Pz := if (mayZ l && mayRowsZ x) = true then ((layOf l x).1, piecesZ (layOf l x).2) else (2, [])

def LayEnd (w : World) (r : Int × List Pz) (e : Ending) (w' : World) : Prop := ∃ v', e = .returned (.tuple #[v', .int .i64 r.1]) ∧ NewOwn w w' v' r.2
theorem cellsAt_at {q q' : Int} : ∀ {a : Nat} {l m : List UInt8} {c : Cz}, l.length = m.length → c ∈ cellsAt q a l → ∃ d ∈ cellsAt q' a m, d.at_ = c.at_
  | a, [], m, c, _, h => by cases h
  | a, x :: l, [], c, h, _ => by simp at h
  | a, x :: l, y :: m, c, h, hc => by
    rw [cellsAt] at hc ⊢
    rcases List.mem_cons.1 hc with rfl | hc
    · exact ⟨_, List.mem_cons_self, rfl⟩
    · obtain ⟨d, hd, e⟩ := cellsAt_at (q' := q') (by simpa using h) hc
      exact ⟨d, List.mem_cons_of_mem _ hd, e⟩
theorem new_at {P : List Gz} (h : P.any longM = false) {c : Cz} (hc : c ∈ cellsZ (P.map newM)) : ∃ d ∈ cellsZ (P.map oldM), d.at_ = c.at_ := by
  obtain ⟨p, hp, hcp⟩ := List.mem_flatMap.1 hc
  obtain ⟨g, hg, rfl⟩ := List.mem_map.1 hp
  have hl : g.new.length = g.old.length := by
    rw [← Bool.not_eq_true, List.any_eq_true] at h
    refine Classical.byContradiction (fun hn => h ⟨g, hg, ?_⟩)
    unfold longM
    simpa using fun e : g.old.length = g.new.length => hn e.symm
  obtain ⟨d, hd, e⟩ := cellsAt_at (q' := 1) hl hcp
  exact ⟨d, List.mem_flatMap.2 ⟨oldM g, List.mem_map_of_mem hg, hd⟩, e⟩
theorem has_new {A : List Cz} (hA : OkC A) {P : List Gz} (h : P.any longM = false) (ho : othC A (cellsZ (P.map oldM)) = false) : HasAll A (cellsZ (P.map newM)) := by
  intro c hc
  obtain ⟨d, hd, e⟩ := new_at h hc
  rw [protAt_pos hA]
  have h1 : byteAt A d.at_ = some d.b := Classical.byContradiction (fun hn => by
    have : othC A (cellsZ (P.map oldM)) = true := othC_iff.2 ⟨d, hd, hn⟩
    rw [ho] at this; cases this)
  obtain ⟨k, hk, e2, -⟩ := (byteAt_some hA.up).1 h1
  exact ⟨k, hk, e2.trans e⟩
theorem layC_miss {L lost gained old now : List Cz} (h : missC L lost = true) : layC L lost gained old now = (17, []) := if_pos h
theorem layC_oth {L lost gained old now : List Cz} (h : missC L lost = false) (h1 : othC (minusC L lost) old = true) : layC L lost gained old now = (17, []) := by
  unfold layC; rw [h, h1]; rfl
theorem layC_meet {L lost gained old now : List Cz} (h : missC L lost = false) (h1 : othC (minusC L lost) old = false) (h2 : meetC (minusC L lost) gained = true) : layC L lost gained old now = (21, []) := by
  unfold layC; rw [h, h1, h2]; rfl
theorem layC_ok {L lost gained old now : List Cz} (h : missC L lost = false) (h1 : othC (minusC L lost) old = false) (h2 : meetC (minusC L lost) gained = false) : layC L lost gained old now = (0, mergeC (patC (minusC L lost) now) gained) := by
  unfold layC; rw [h, h1, h2]; rfl

theorem alloc2 (w : World) (o1 o2 : Obj) : Below w.heap.size w ((w.alloc o1).alloc o2) ∧ ((w.alloc o1).alloc o2).heap[w.heap.size]? = some o1 ∧ ((w.alloc o1).alloc o2).heap[w.heap.size + 1]? = some o2 ∧ ((w.alloc o1).alloc o2).heap.size = w.heap.size + 2 := by
  obtain ⟨b3, h1, h2, -⟩ := alloc3 w o1 o2 o2
  have b1 : Below w.heap.size w (w.alloc o1) := (Below.refl _ _).alloc (Nat.le_refl _) _
  have b2 : Below (w.alloc o1).heap.size (w.alloc o1) ((w.alloc o1).alloc o2) := (Below.refl _ _).alloc (Nat.le_refl _) _
  have s1 : (w.alloc o1).heap.size = w.heap.size + 1 := by simp
  exact ⟨b1.trans (b2.mono b1.size), (b2.block _ (by omega)).trans (heap_alloc_new w o1), by rw [← s1]; exact heap_alloc_new _ o2, by simp⟩
theorem patC_len {A B : List Cz} : (patC A B).length = A.length := by unfold patC; rw [List.length_map]

theorem patS_yes (out : List Pz) (r : Pt) (h : 0 < r.q) : patS out r = putP out r.at_ r.p r.b := by unfold patS; rw [if_pos h]
theorem patS_no (out : List Pz) (r : Pt) (h : ¬ 0 < r.q) : patS out r = putP out r.at_ r.p r.a := by unfold patS; rw [if_neg h]
theorem part_7 {a b : List Pz} {bs : List Nat} (ha : mayZ a = true) (hb : mayZ b = true) {r : Pt} (h : r ∈ partsZ a b bs) : (0 ≤ r.p ∧ r.p ≤ 7) ∧ (0 ≤ r.q ∧ r.q ≤ 7) := by
  obtain ⟨x, -, rfl⟩ := parts_of h
  exact ⟨cut_7 (srt_may ha) (p7_may ha) x.1 x.2, cut_7 (srt_may hb) (p7_may hb) x.1 x.2⟩
/-- What stands behind the last store. -/
structure FinV (w W : World) (X4 X5 : Nat) (v : Value) (L : List PzV) : Prop where
  bel : Below w.heap.size w W
  own : OwnPz (blkPz v L) W v L
  ge : ∀ k, blkPz v L k → w.heap.size ≤ k
  r4 : RowAt W X4 24 #[v]
  r5 : RowAt W X5 31 #[.int .i64 0]
theorem FinV.turn {w W : World} {X4 X5 : Nat} {v : Value} {L : List PzV} (h : FinV w W X4 X5 v L) {l : Nat} {o : Obj} (o' : Obj) (ho : W.heap[l]? = some o) (hoc : o.isCells = false) (hl : w.heap.size ≤ l) : FinV w (W.putObj l o') X4 X5 v L :=
  ⟨⟨h.bel.os, h.bel.tape, h.bel.output, by simpa using h.bel.size, fun k hk => (World.putObj_heap_other (by omega)).trans (h.bel.block k hk)⟩, h.own.of_block (fun k hb => World.putObj_heap_other (fun e => by subst e; have := h.own.cells hb ho; rw [hoc] at this; cases this)), h.ge, row_turn h.r4 o' ho hoc, row_turn h.r5 o' ho hoc⟩
theorem FinV.new {w W : World} {X4 X5 : Nat} {v : Value} {L : List PzV} (h : FinV w W X4 X5 v L) : NewOwn w W v (L.map PzV.m) :=
  ⟨h.bel, L, h.own.widen (fun k hk => ⟨h.ge k hk, h.own.blt k hk⟩), rfl⟩
theorem fin_store {M : Nat → Prop} {w W : World} {B X X4 X5 : Nat} {v : Value} {L : List PzV} (h : OneV M B X W v L) (hb : BoxV M X4 X5 W 0) (hbel : Below w.heap.size w W) (h4 : w.heap.size ≤ X4) (h4b : X4 < B) (hne : X4 ≠ X5) : FinV w (W.setCell ⟨X4, 0, none⟩ v) X4 X5 v L := by
  have set : ∀ k, k ≠ X4 → (W.setCell ⟨X4, 0, none⟩ v).heap[k]? = W.heap[k]? := fun k hk => heap_setCell_other _ _ _ _ hk
  exact ⟨⟨hbel.os, hbel.tape, hbel.output, by simp [World.setCell]; exact hbel.size, fun k hk => (set k (by omega)).trans (hbel.block k hk)⟩, h.l.of_block (fun k hk => set k (fun e => by have := (h.d k hk).1; omega)), fun k hk => by have := (h.d k hk).1; omega, hb.r4.same (i := 0) v, (set X5 (Ne.symm hne)).trans hb.r5⟩

/-- What stands ahead of the loops. -/
structure LayW (w W : World) (rows : Array Value) : Prop where
  bel : Below w.heap.size w W
  r3 : RowAt W w.heap.size 27 rows
  r4 : RowAt W (w.heap.size + 1) 24 #[.slice none 0 0]
  r5 : RowAt W (w.heap.size + 1 + 1) 31 #[.int .i64 0]
theorem LayW.below {w W W' : World} {rows : Array Value} (h : LayW w W rows) (hb : Below W.heap.size W W') : LayW w W' rows := ⟨h.bel.trans (hb.mono h.bel.size), RowAt.below h.r3 hb, RowAt.below h.r4 hb, RowAt.below h.r5 hb⟩
theorem layW_start (w : World) (rows : Array Value) : LayW w (((w.alloc (.cells rows 27)).alloc (.cells #[.slice none 0 0] 24)).alloc (.cells #[.int .i64 0] 31)) rows := by
  obtain ⟨h1, h2, h3, h4⟩ := alloc3 w (.cells rows 27) (.cells #[.slice none 0 0] 24) (.cells #[.int .i64 0] 31)
  exact ⟨h1, h2, h3, h4⟩
theorem layW_err {w W : World} {rows : Array Value} (h : LayW w W rows) (n : Int) : NewOwn w (W.setCell ⟨w.heap.size + 1 + 1, 0, none⟩ (.int .i64 n)) (.slice none 0 0) [] ∧ (W.setCell ⟨w.heap.size + 1 + 1, 0, none⟩ (.int .i64 n)).cell? ⟨w.heap.size + 1, 0, none⟩ = some (.slice none 0 0) ∧ (W.setCell ⟨w.heap.size + 1 + 1, 0, none⟩ (.int .i64 n)).cell? ⟨w.heap.size + 1 + 1, 0, none⟩ = some (.int .i64 n) := by
  have r4 : RowAt (W.setCell ⟨w.heap.size + 1 + 1, 0, none⟩ (.int .i64 n)) (w.heap.size + 1) 24 #[.slice none 0 0] := (heap_setCell_other _ _ _ _ (show w.heap.size + 1 ≠ w.heap.size + 1 + 1 by omega)).trans h.r4
  have r5 := h.r5.same (i := 0) (.int .i64 n)
  have hb : Below w.heap.size w (W.setCell ⟨w.heap.size + 1 + 1, 0, none⟩ (.int .i64 n)) := ⟨h.bel.os, h.bel.tape, h.bel.output, by simp [World.setCell]; exact h.bel.size, fun k hk => (heap_setCell_other _ _ _ _ (show k ≠ w.heap.size + 1 + 1 by omega)).trans (h.bel.block k hk)⟩
  exact ⟨(NewOwn.nil w).below hb, r4.cell 0, r5.cell 0⟩
/-- What stands at an early return. -/
theorem lay_stop {w w4 W : World} {X : Nat → Prop} {M : Nat → Prop} {X4 X5 D : Nat} {n : Int} (hb : Below w.heap.size w w4) (hx : ∀ k, k < w.heap.size → ¬ X k) (hsm : SameM (fun k => k < w4.heap.size ∧ ¬ X k) w4 W) (hf : FrV w W) (hbx : BoxV M X4 X5 W n) (hD : w4.heap.size ≤ D) (hd : W.heap[D]? = some (.deferred (some []))) :
    NewOwn w (W.putObj D (.deferred none)) (.slice none 0 0) [] ∧ (W.putObj D (.deferred none)).cell? ⟨X4, 0, none⟩ = some (.slice none 0 0) ∧ (W.putObj D (.deferred none)).cell? ⟨X5, 0, none⟩ = some (.int .i64 n) ∧ SameM (fun k => k < w4.heap.size ∧ ¬ X k) w4 (W.putObj D (.deferred none)) ∧ FrV w (W.putObj D (.deferred none)) ∧ BoxV M X4 X5 (W.putObj D (.deferred none)) n := by
  have hbx' := hbx.turn (.deferred none) hd rfl
  have hb' : Below w.heap.size w (W.putObj D (.deferred none)) := by
    refine ⟨hf.os, hf.tape, hf.output, by simpa using hf.size, fun k hk => ?_⟩
    have := hb.size
    rw [World.putObj_heap_other (by omega)]
    exact (hsm.blk k ⟨Nat.lt_of_lt_of_le hk hb.size, hx k hk⟩).trans (hb.block k hk)
  exact ⟨(NewOwn.nil w).below hb', hbx'.r4.cell 0, hbx'.r5.cell 0, hsm.turn hD (fun k hk => hk.1), hf.turn _ _, hbx'⟩
theorem LayW.new {w W : World} {rows : Array Value} (h : LayW w W rows) : NewOwn w W (.slice none 0 0) [] := (NewOwn.nil w).below h.bel

set_option maxRecDepth 100000 in
set_option maxHeartbeats 4000000 in
theorem bd_lay (w : World) (v vl vg vp : Value) (L Ll Lg : List PzV) (Lp : List PaV) (hL : PzsAt w v L) (hl : PzsAt w vl Ll) (hg : PzsAt w vg Lg) (hp : PasAt w vp Lp) (hat : ∀ x ∈ Lp, x.at_ < 2 ^ 64)
    (hn : L.length ≤ 20000) (hnl : Ll.length ≤ 20000) (hng : Lg.length ≤ 20000) (hnp : Lp.length ≤ 20000) (hca : (cellsZ (L.map PzV.m)).length ≤ 20000) :
    Calls Tryz.prog 6 #[v, .agg #[vl, vg, vp]] w (LayEnd w (layZ (L.map PzV.m) (rzV Ll Lg Lp))) := by
  refine (callsIn_wide (n := 3)).1 ?_
  refine callsIn_of_wp_marks Tryz.func6 rfl trivial ?_ rfl
  simp only [Tryz.ntmps6, List.size_toArray, List.length_cons, List.length_nil, Nat.reduceAdd, Nat.reduceSub, Array.replicate_succ, Array.replicate_zero, List.push_toArray, List.append_toArray, List.nil_append, List.cons_append]
  obtain ⟨pa, ca, rfl⟩ := RowsAt.form hL.rows
  obtain ⟨pl, cl, rfl⟩ := RowsAt.form hl.rows
  obtain ⟨pg, cg, rfl⟩ := RowsAt.form hg.rows
  obtain ⟨pp, cp, rfl⟩ := RowsAt.form hp.rows
  have hyA := hid (fun W (hb : Below w.heap.size w W) => bd_may W _ L (hL.below hb))
  have hyR := hid (fun W (hb : Below w.heap.size w W) => bd_mayRows W _ _ _ Ll Lg Lp (hl.below hb) (hg.below hb) (hp.below hb) hat hnl hng hnp)
  have H := hid (And.intro hL (And.intro hl (And.intro hg (And.intro hp (And.intro hat (And.intro hn (And.intro hnl (And.intro hng (And.intro hnp hca)))))))))
  clear hL hl hg hp hat hn hnl hng hnp hca
  obtain ⟨R, hR⟩ : ∃ R, R = layZ (L.map PzV.m) (rzV Ll Lg Lp) := ⟨_, rfl⟩
  rw [← hR]
  have HR := hid hR
  clear hR
  gi_wp2
  obtain ⟨W1, hW1⟩ : ∃ W1, W1 = ((w.alloc (.cells #[.slice pl Ll.length cl, .slice pg Lg.length cg, .slice pp Lp.length cp] 27)).alloc (.cells #[.slice none 0 0] 24)).alloc (.cells #[.int .i64 0] 31) := ⟨_, rfl⟩
  have h1 := layW_start w #[.slice pl Ll.length cl, .slice pg Lg.length cg, .slice pp Lp.length cp]
  rw [← hW1] at h1 ⊢
  clear hW1
  refine ⟨trivial, callsIn_wide.2 ((hyA.out _ h1.bel).mono ?_)⟩
  rintro e W2 ⟨rfl, hb2⟩
  have h2 := h1.below hb2
  clear h1 hb2
  cases hmA : mayZ (L.map PzV.m) with
  | false =>
    have hR : R = (2, []) := by rw [HR.out]; unfold layZ; rw [hmA]; rfl
    subst hR
    have H2 := hid h2
    have z0 : W2.cell? ⟨w.heap.size + 1, 0, none⟩ = some (.slice none 0 0) := h2.r4.cell 0
    have z1 : W2.cell? ⟨w.heap.size + 1 + 1, 0, none⟩ = some (.int .i64 0) := h2.r5.cell 0
    have f0 := h2.r4.own 0
    have f1 := h2.r5.own 0
    have s0 : W2.setCell ⟨w.heap.size + 1, 0, none⟩ (.slice none 0 0) = W2 := setCell_selfB (i := 0) h2.r4 rfl
    have he := layW_err h2 2
    have HE := hid he.1
    have e4 := he.2.1
    have e5 := he.2.2
    clear h2 hyR he
    gi_wp2
    refine ⟨trivial, ?_⟩
    gi_wp2
    refine ⟨.tuple #[.slice none 0 0, .int .i64 2], by simp [results, Tryz.results6, go_sem, e4, e5], ?_⟩
    exact ⟨_, rfl, HE.out⟩
  | true =>
    have H2 := hid h2
    have z3 : W2.cell? ⟨w.heap.size, 0, none⟩ = some (.slice pl Ll.length cl) := h2.r3.cell 0
    have z4 : W2.cell? ⟨w.heap.size, 1, none⟩ = some (.slice pg Lg.length cg) := h2.r3.cell 1
    have z5 : W2.cell? ⟨w.heap.size, 2, none⟩ = some (.slice pp Lp.length cp) := h2.r3.cell 2
    clear h2
    gi_wp2
    refine ⟨trivial, callsIn_wide.2 ((hyR.out _ H2.out.bel).mono ?_)⟩
    rintro e W3 ⟨rfl, hb3⟩
    have h3 := H2.out.below hb3
    clear hb3 z3 z4 z5 H2
    cases hmR : mayRowsZ (rzV Ll Lg Lp) with
    | false =>
      have hR : R = (2, []) := by rw [HR.out]; unfold layZ; rw [hmR, Bool.and_false]; rfl
      subst hR
      have H2 := hid h3
      have z0 : W3.cell? ⟨w.heap.size + 1, 0, none⟩ = some (.slice none 0 0) := h3.r4.cell 0
      have z1 : W3.cell? ⟨w.heap.size + 1 + 1, 0, none⟩ = some (.int .i64 0) := h3.r5.cell 0
      have f0 := h3.r4.own 0
      have f1 := h3.r5.own 0
      have s0 : W3.setCell ⟨w.heap.size + 1, 0, none⟩ (.slice none 0 0) = W3 := setCell_selfB (i := 0) h3.r4 rfl
      have he := layW_err h3 2
      have HE := hid he.1
      have e4 := he.2.1
      have e5 := he.2.2
      clear h3 he
      gi_wp2
      refine ⟨.tuple #[.slice none 0 0, .int .i64 2], by simp [results, Tryz.results6, go_sem, e4, e5], ?_⟩
      exact ⟨_, rfl, HE.out⟩
    | true =>
      have hR : R = ((layOf (L.map PzV.m) (rzV Ll Lg Lp)).1, piecesZ (layOf (L.map PzV.m) (rzV Ll Lg Lp)).2) := by rw [HR.out]; unfold layZ; rw [hmA, hmR]; rfl
      have HRR := hid hR
      have hmL : mayZ (Ll.map PzV.m) = true := by
        unfold mayRowsZ rzV at hmR
        simp only [Bool.and_eq_true] at hmR
        exact hmR.1.1.1.1.1.1
      have hbo := hid (fun W (hb : Below w.heap.size w W) => bd_both W _ _ L Ll (H.out.1.below hb) (H.out.2.1.below hb) H.out.2.2.2.2.2.1 H.out.2.2.2.2.2.2.1 (srt_may hmA) (srt_may hmL))
      have HM := hid (And.intro hmA (And.intro hmR hmL))
      have H3 := hid h3
      have hal : Below W3.heap.size W3 (W3.alloc (.cells #[.slice none 0 0] 24)) := (Below.refl _ _).alloc (Nat.le_refl _) _
      obtain ⟨W4, hW4⟩ : ∃ W4, W4 = W3.alloc (.cells #[.slice none 0 0] 24) := ⟨_, rfl⟩
      have h4 := h3.below hal
      have r6 : RowAt W4 W3.heap.size 24 #[.slice none 0 0] := by rw [hW4]; exact heap_alloc_new _ _
      rw [← hW4] at h4
      have H4 := hid (And.intro h4 r6)
      have z3 : W4.cell? ⟨w.heap.size, 0, none⟩ = some (.slice pl Ll.length cl) := h4.r3.cell 0
      rw [hW4] at z3
      have HW4 := hid hW4.symm
      clear h3 hal h4 hW4 r6 hmR hmL hR
      gi_wp2
      rw [HW4.out]
      refine ⟨trivial, callsIn_wide.2 ((hbo.out _ H4.out.1.bel).mono ?_)⟩
      rintro e W5 ⟨rfl, vt, bs, hbi, hbn⟩
      have hS := boths_of (X := fun k => k = w.heap.size + 1 ∨ k = w.heap.size + 1 + 1 ∨ k = W3.heap.size) hbi (H.out.1.below H4.out.1.bel) (H.out.2.1.below H4.out.1.bel) (by
        rintro k (rfl | rfl | rfl)
        · exact ⟨_, _, H4.out.1.r4, notNum_slice _ _ _⟩
        · exact ⟨_, _, H4.out.1.r5, notNum_i64 _⟩
        · exact ⟨_, _, H4.out.2, notNum_slice _ _ _⟩)
      have h5 := H4.out.1.below hbi.bel
      have r6 := RowAt.below H4.out.2 hbi.bel
      have hsz := hbi.size
      have hX3 : w.heap.size + 1 + 1 < W3.heap.size := H3.out.r5.lt
      have H5 := hid (And.intro hS (And.intro hbn (And.intro h5 (And.intro r6 (And.intro hX3 (And.intro hsz H4.out.2.lt))))))
      clear hS hbn h5 r6 hbi hbo hsz z3 hX3
      gi_wp2
      refine range_both (s := 7) H5.out.1 H.out.2.2.2.2.2.1 H.out.2.2.2.2.2.2.1 HM.out.1 HM.out.2.2 H5.out.2.1 rfl
        (AccI leftS missP w (W3.heap.size + 1) W3.heap.size (w.heap.size + 1) (w.heap.size + 1 + 1)) (StopI (partsZ (L.map PzV.m) (Ll.map PzV.m) bs) missP 17 w (w.heap.size + 1) (w.heap.size + 1 + 1))
        acc_abide stop_abide acc_turn stop_turn acc_less stop_less ?start1 ?assign1 ?body1 ?done1 ?stop1
      case start1 =>
        exact ⟨_, [], OneV.nil H5.out.2.2.2.1 (fun h => h.2 (.inr (.inr rfl))) (Nat.lt_succ_self _), ⟨H5.out.2.2.1.r4, H5.out.2.2.1.r5, fun h => h.2 (.inl rfl), fun h => h.2 (.inr (.inl rfl))⟩, ⟨H5.out.2.2.1.bel.os, H5.out.2.2.1.bel.tape, H5.out.2.2.1.bel.output, H5.out.2.2.1.bel.size⟩, rfl, fun y hy => by cases hy⟩
      case assign1 =>
        intro l x W K hK
        have HK := hid hK
        clear hK
        simp only [List.setIfInBounds_toArray, List.set_cons_zero, List.set_cons_succ]
        gi_wp2
        exact HK.out
      case body1 =>
        rintro l pre x M Px W ⟨v, Lc, ho, hbx, hf, hm, hck⟩ hr hT hlen hM hge -
        obtain ⟨rest, hrest⟩ := hT.2.2.2.2
        have hxm : x.m ∈ partsZ (L.map PzV.m) (Ll.map PzV.m) bs := by rw [← hrest]; simp
        obtain ⟨fa, fb, fpos, fp0, fq0, flen⟩ := parts_full (srt_may HM.out.1) (srt_may HM.out.2.2) H5.out.2.1 x.m hxm
        obtain ⟨fma, fmb⟩ := parts_max (srt_may HM.out.1) (srt_may HM.out.2.2) H5.out.2.1 hxm
        have hLc : Lc.length ≤ 100000 := by
          have h1 := acc_len len_leftS (pre.map PtV.m) []
          rw [← hm, List.length_map, List.length_map] at h1
          simp only [List.length_nil] at h1
          omega
        have hBs : W3.heap.size + 1 ≤ W.heap.size := by
          have h1 := hM Px (.inr rfl)
          have h2 := H5.out.2.2.2.2.2.1
          have h3 := H5.out.2.2.2.2.2.2
          omega
        have hstep : ∀ c, missP x.m = c → c = false → ∀ y ∈ pre ++ [x], missP y.m = false := fun c h1 h2 y hy => by
          rcases List.mem_append.1 hy with hy | hy
          · exact hck y hy
          · rw [List.mem_singleton] at hy; subst hy; exact h1.trans h2
        have hfold : ∀ out, out = (pre.map PtV.m).foldl leftS [] → leftS out x.m = ((pre ++ [x]).map PtV.m).foldl leftS [] := fun out h => by rw [List.map_append, List.foldl_append, ← h]; rfl
        simp only [List.setIfInBounds_toArray, List.set_cons_zero, List.set_cons_succ]
        have hrx := hr
        obtain ⟨xat, xpa, xca, la, xpb, xcb, lb, xp, xq⟩ := x
        obtain ⟨hba, hbb, -⟩ := hT
        simp only [PtV.m] at fa fb fpos fp0 fq0 flen fma fmb hxm hstep hfold
        obtain ⟨v1, v2, rfl⟩ := ho.form
        dsimp only [PtV.v, PtV.sa, PtV.sb] at hr hba hbb ⊢
        have x0 : W.cell? ⟨Px, 0, none⟩ = some (.int .u64 (xat : Int)) := hr.cell 0
        have x1 : W.cell? ⟨Px, 1, none⟩ = some (.slice xpa la.length xca) := hr.cell 1
        have x2 : W.cell? ⟨Px, 2, none⟩ = some (.slice xpb lb.length xcb) := hr.cell 2
        have x3 : W.cell? ⟨Px, 3, none⟩ = some (.int .i64 xp) := hr.cell 3
        have x4 : W.cell? ⟨Px, 4, none⟩ = some (.int .i64 xq) := hr.cell 4
        have hX45 : w.heap.size + 1 ≠ w.heap.size + 1 + 1 := by omega
        have herr := hbx.err (m := 17) hX45
        have f4 := hbx.r4.own 0
        have f5 := hbx.r5.own 0
        have c4 : W.cell? ⟨w.heap.size + 1, 0, none⟩ = some (.slice none 0 0) := hbx.r4.cell 0
        have c5 : W.cell? ⟨w.heap.size + 1 + 1, 0, none⟩ = some (.int .i64 0) := hbx.r5.cell 0
        have s4 := herr.1
        have hfe : FrV w (W.setCell ⟨w.heap.size + 1 + 1, 0, none⟩ (.int .i64 17)) := ⟨hf.os, hf.tape, hf.output, by simp [World.setCell]; exact hf.size⟩
        have HB := hid (And.intro ho (And.intro hbx (And.intro hf (And.intro hm (And.intro hxm (And.intro hLc (And.intro hBs (And.intro hM (And.intro herr.2 hfe)))))))))
        have HS := hid (And.intro hstep (And.intro hfold hr))
        have HP := hid (And.intro fa (And.intro fpos (And.intro fp0 (And.intro fma hba))))
        clear ho hbx hf hm hck hxm hLc hBs hM herr hfe hstep hfold hlen hr hrx hge hrest
        by_cases hq : 0 < xq
        · have hqz : decide ((0 : Int) < xq) = true := decide_eq_true hq
          by_cases hpq : xp = xq
          · subst hpq
            have hne : (xp != xp) = false := by simp
            have hmp : missP ⟨xat, la, lb, xp, xp⟩ = (la != lb) := by unfold missP; rw [hne, hqz]; simp
            have HMP := hid hmp
            have hEq := hid (bd_equal W xpa xpb la.length xca lb.length xcb la lb hba hbb)
            have Hq := hid hq
            clear hmp hba hbb fa fb fpos fp0 fq0 flen fma fmb hq
            gi_wp2
            refine ⟨trivial, CallsIn.inRound l (callsIn_wide.2 (hEq.out.mono ?_))⟩
            rintro e W6 ⟨rfl, hb6⟩
            have hr6 := RowAt.below HS.out.2.2 hb6
            have y4 : W6.cell? ⟨Px, 4, none⟩ = some (.int .i64 xp) := hr6.cell 4
            have hbx6 := HB.out.2.1.its (Its.of_below _ hb6)
            have herr := hbx6.err (m := 17) hX45
            have g4 := hbx6.r4.own 0
            have g5 := hbx6.r5.own 0
            have d4 : W6.cell? ⟨w.heap.size + 1, 0, none⟩ = some (.slice none 0 0) := hbx6.r4.cell 0
            have d5 : W6.cell? ⟨w.heap.size + 1 + 1, 0, none⟩ = some (.int .i64 0) := hbx6.r5.cell 0
            have t4 := herr.1
            have hf6 := HB.out.2.2.1.below hb6
            have hfe : FrV w (W6.setCell ⟨w.heap.size + 1 + 1, 0, none⟩ (.int .i64 17)) := ⟨hf6.os, hf6.tape, hf6.output, by simp [World.setCell]; exact hf6.size⟩
            have ho6 := HB.out.1.below hb6
            have H6 := hid (And.intro hb6 (And.intro hbx6 (And.intro herr.2 (And.intro hf6 (And.intro hfe ho6)))))
            clear hb6 hr6 hbx6 herr hf6 hfe ho6 x0 x1 x2 x3 x4 c4 c5 f4 f5 s4
            by_cases hab : la = lb
            · have hbe : (la == lb) = true := by simp [hab]
              have hz : (xp == 0) = false := by have := Hq.out; simp; omega
              have hA : AccI leftS missP w (W3.heap.size + 1) W3.heap.size (w.heap.size + 1) (w.heap.size + 1 + 1) (pre ++ [⟨xat, xpa, xca, la, xpb, xcb, lb, xp, xp⟩]) (fun k => M k ∨ k = Px) W6 := by
                refine ⟨_, Lc, H6.out.2.2.2.2.2, H6.out.2.1, H6.out.2.2.2.1, ?_, HS.out.1 _ HMP.out (by rw [hab]; simp)⟩
                rw [← HS.out.2.1 _ HB.out.2.2.2.1]
                unfold leftS
                rw [if_neg (by have := Hq.out; show ¬ xp = 0; omega)]
              rw [hbe]
              have HA := hid hA
              clear hA hab
              gi_wp2
              exact ⟨_, fun k h => .inl h, StepV.below H6.out.1, HA.out⟩
            · have hbe : (la == lb) = false := by simpa using hab
              have hA : StopI (partsZ (L.map PzV.m) (Ll.map PzV.m) bs) missP 17 w (w.heap.size + 1) (w.heap.size + 1 + 1) (pre ++ [⟨xat, xpa, xca, la, xpb, xcb, lb, xp, xp⟩]) (fun k => M k ∨ k = Px) (W6.setCell ⟨w.heap.size + 1 + 1, 0, none⟩ (.int .i64 17)) :=
                ⟨H6.out.2.2.1.1, H6.out.2.2.2.2.1, _, HB.out.2.2.2.2.1, by rw [HMP.out]; simpa using hab⟩
              have hst := (StepV.below (M := fun k => M k ∨ k = Px) H6.out.1).trans H6.out.2.2.1.2
              rw [hbe]
              have HA := hid (And.intro hst hA)
              clear hst hA hab
              gi_wp2
              exact ⟨_, fun k h => .inl h, HA.out⟩
          · have hne : (xp != xq) = true := by simpa using hpq
            have hA : StopI (partsZ (L.map PzV.m) (Ll.map PzV.m) bs) missP 17 w (w.heap.size + 1) (w.heap.size + 1 + 1) (pre ++ [⟨xat, xpa, xca, la, xpb, xcb, lb, xp, xq⟩]) (fun k => M k ∨ k = Px) (W.setCell ⟨w.heap.size + 1 + 1, 0, none⟩ (.int .i64 17)) :=
              ⟨HB.out.2.2.2.2.2.2.2.2.1.1, HB.out.2.2.2.2.2.2.2.2.2, _, HB.out.2.2.2.2.1, by unfold missP; rw [hqz, hne]; rfl⟩
            have HA := hid (And.intro HB.out.2.2.2.2.2.2.2.2.1.2 hA)
            clear hA hpq hq hba hbb fa fb fpos fp0 fq0 flen fma fmb
            gi_wp2
            refine ⟨trivial, ?_⟩
            gi_wp2
            exact ⟨_, fun k h => .inl h, HA.out⟩
        · have hqz : decide ((0 : Int) < xq) = false := decide_eq_false hq
          have hq0 : xq = 0 := by omega
          subst hq0
          have hz : ((0 : Int) == 0) = true := by simp
          have hp : 0 < xp := by omega
          have hput := lay_put (fun k => M k ∨ k = Px) (W3.heap.size + 1) W3.heap.size W _ Lc HB.out.1 HB.out.2.2.2.2.2.2.1 HB.out.2.2.2.2.2.2.2.1 HB.out.2.2.2.2.2.1 xat xp xpa xca la hba (fa hp) (fma (fa hp))
          have hput := hid hput
          have r6 : W.cell? ⟨W3.heap.size, 0, none⟩ = some (.slice v1 Lc.length v2) := HB.out.1.row.cell 0
          have hm0 : missP ⟨xat, la, lb, xp, 0⟩ = false := by unfold missP; rw [hqz]; rfl
          have HM0 := hid hm0
          clear hq hp hba hbb fa fb fpos fp0 fq0 flen fma fmb hm0
          gi_wp2
          refine ⟨trivial, ?_⟩
          gi_wp2
          refine ⟨trivial, CallsIn.inRound l (callsIn_wide.2 (hput.out.mono ?_))⟩
          rintro e W6 ⟨v6, L6, rfl, hm6, ho6, hs6, hk6, hr6, v3, v4, rfl⟩
          have r7 : W6.cell? ⟨W3.heap.size, 0, none⟩ = some (.slice v1 Lc.length v2) := hr6.cell 0
          have f7 := hr6.own 0
          have hA : AccI leftS missP w (W3.heap.size + 1) W3.heap.size (w.heap.size + 1) (w.heap.size + 1 + 1) (pre ++ [⟨xat, xpa, xca, la, xpb, xcb, lb, xp, 0⟩]) (fun k => M k ∨ k = Px) (W6.setCell ⟨W3.heap.size, 0, none⟩ (.slice v3 L6.length v4)) := by
            have hX := H5.out.2.2.2.2.1
            have l4 := HB.out.2.1.r4.lt
            have l5 := HB.out.2.1.r5.lt
            refine ⟨_, L6, ho6, ⟨(hk6 _ (by omega) (by omega) l4).trans HB.out.2.1.r4, (hk6 _ (by omega) (by omega) l5).trans HB.out.2.1.r5, HB.out.2.1.x4, HB.out.2.1.x5⟩, HB.out.2.2.1.kept hs6.kept, ?_, HS.out.1 _ HM0.out rfl⟩
            rw [← HS.out.2.1 _ HB.out.2.2.2.1, hm6]
            unfold leftS
            rw [if_pos rfl]
          have HA := hid (And.intro hs6 hA)
          clear hm6 ho6 hs6 hk6 hr6 hA
          gi_wp2
          exact ⟨_, fun k h => .inl h, HA.out⟩
      case stop1 =>
        rintro D pre M W hD hsm ⟨hbx, hf, hmiss⟩ hd
        have hX3 := H5.out.2.2.2.2.1
        obtain ⟨e1, e4, e5, -⟩ := lay_stop H5.out.2.2.1.bel (fun k hk h => by rcases h with h | h | h <;> omega) hsm hf hbx hD hd
        have e0 : layOf (L.map PzV.m) (rzV Ll Lg Lp) = (17, []) := if_pos ((miss_parts (srt_may HM.out.1) (srt_may HM.out.2.2) H5.out.2.1).1 hmiss)
        have hR : R = (17, []) := by rw [HRR.out, e0]; rfl
        subst hR
        have HE := hid e1
        have Hd := hid hd
        clear hbx hf hmiss hd hsm e1 hX3
        gi_wp2
        refine ⟨by simp, .inl ⟨_, _, rfl, run_takeDeferred Hd.out, ?_⟩⟩
        refine ⟨.tuple #[.slice none 0 0, .int .i64 17], by simp [results, Tryz.results6, go_sem, e4, e5], ?_⟩
        exact ⟨_, rfl, HE.out⟩
      case done1 =>
        rintro D1 xs M W hD1 hx hsm ⟨v, Lc, ho, hbx, hf, hm, hck⟩ hd1
        have hX3 := H5.out.2.2.2.2.1
        have hmiss : missC (cellsZ (L.map PzV.m)) (cellsZ (Ll.map PzV.m)) = false := by
          rw [← Bool.not_eq_true, ← miss_parts (srt_may HM.out.1) (srt_may HM.out.2.2) H5.out.2.1, ← hx]
          rintro ⟨r, hr, h1⟩
          obtain ⟨y, hy, rfl⟩ := List.mem_map.1 hr
          rw [hck y hy] at h1; cases h1
        rw [hx, left_is (srt_may HM.out.1) (srt_may HM.out.2.2) H5.out.2.1] at hm
        have hokL : OkC (minusC (cellsZ (L.map PzV.m)) (cellsZ (Ll.map PzV.m))) := okC_minus (okC_of HM.out.1)
        have hmc : mayZ (Lc.map PzV.m) = true := by rw [hm]; exact may_pieces _ hokL
        have hlc : Lc.length ≤ 20000 := by
          have h1 := pieces_len (minusC (cellsZ (L.map PzV.m)) (cellsZ (Ll.map PzV.m)))
          rw [← hm, List.length_map] at h1
          have h2 : (minusC (cellsZ (L.map PzV.m)) (cellsZ (Ll.map PzV.m))).length ≤ (cellsZ (L.map PzV.m)).length := List.length_filter_le _ _
          have h3 := H.out.2.2.2.2.2.2.2.2.2
          omega
        have hw : LayW w W #[.slice pl Ll.length cl, .slice pg Lg.length cg, .slice pp Lp.length cp] := by
          have h1 := H5.out.2.2.1.bel.size
          have h2 := H5.out.2.2.1.r3.lt
          refine ⟨⟨hf.os, hf.tape, hf.output, hf.size, fun k hk => (hsm.blk k ⟨by omega, fun h => by rcases h with h | h | h <;> omega⟩).trans (H5.out.2.2.1.bel.block k hk)⟩, (hsm.blk _ ⟨h2, fun h => by rcases h with h | h | h <;> omega⟩).trans H5.out.2.2.1.r3, hbx.r4, hbx.r5⟩
        have hpt := bd_patches W _ Lp (H.out.2.2.2.1.below hw.bel) H.out.2.2.2.2.1 (by have := H.out.2.2.2.2.2.2.2.2.1; omega)
        obtain ⟨v1, v2, rfl⟩ := ho.form
        have z2 : W.cell? ⟨w.heap.size, 2, none⟩ = some (.slice pp Lp.length cp) := hw.r3.cell 2
        have hDl : w.heap.size + 1 + 1 < D1 := by have := H5.out.2.2.1.r5.lt; omega
        have HP := hid hpt
        have H6 := hid (And.intro hw (And.intro ho.row (And.intro ho.l.reads (And.intro hd1 (And.intro hm (And.intro hmc (And.intro hlc (And.intro hmiss (And.intro hokL (And.intro hX3 hDl))))))))))
        clear hx hsm ho hbx hf hm hck hd1 hX3 hmiss hokL hmc hlc hw hpt hDl
        gi_wp2
        refine ⟨trivial, callsIn_wide.2 (HP.out.mono ?_)⟩
        rintro e W7 ⟨vo, vn, rfl, hb7, hpo, hpn⟩
        obtain ⟨o1, o2, rfl⟩ := RowsAt.form hpo.rows
        obtain ⟨n1, n2, rfl⟩ := RowsAt.form hpn.rows
        rw [List.length_map] at hpo hpn
        have hw7 := H6.out.1.below hb7
        have r6 := RowAt.below H6.out.2.1 hb7
        have hl7 := H6.out.2.2.1.below hb7
        have hd7 : W7.heap[D1]? = some (.deferred (some [])) := (hb7.block _ (Array.getElem?_eq_some_iff.1 H6.out.2.2.2.1).1).trans H6.out.2.2.2.1
        have hmR := HM.out.2.1
        unfold mayRowsZ rzV at hmR
        simp only [Bool.and_eq_true, Bool.not_eq_true'] at hmR
        obtain ⟨⟨⟨⟨⟨⟨m1, m2⟩, m3⟩, m4⟩, m5⟩, m6⟩, m7⟩ := hmR
        rw [← old_m] at m3 m6 m7
        rw [← new_m] at m4
        have hlo : (Lp.map oldP).length ≤ 20000 := by rw [List.length_map]; exact H.out.2.2.2.2.2.2.2.2.1
        have hln : (Lp.map newP).length ≤ 20000 := by rw [List.length_map]; exact H.out.2.2.2.2.2.2.2.2.1
        have hbo := bd_both W7 _ _ Lc (Lp.map oldP) hl7 hpo H6.out.2.2.2.2.2.2.1 hlo (srt_may H6.out.2.2.2.2.2.1) (srt_may m3)
        have z6 : W7.cell? ⟨W3.heap.size, 0, none⟩ = some (.slice v1 Lc.length v2) := r6.cell 0
        have HMP := hid (And.intro m2 (And.intro m3 (And.intro m4 (And.intro m5 (And.intro m6 (And.intro m7 (And.intro hlo hln)))))))
        have H7 := hid (And.intro hw7 (And.intro r6 (And.intro hl7 (And.intro hd7 (And.intro hpo hpn)))))
        have HB := hid hbo
        clear hb7 hpo hpn hw7 r6 hl7 hd7 m1 m2 m3 m4 m5 m6 m7 hlo hln hbo z2
        gi_wp2
        refine ⟨trivial, callsIn_wide.2 (HB.out.mono ?_)⟩
        rintro e W8 ⟨rfl, vt, bs2, hbi, hbn⟩
        have hS := boths_of (X := fun k => k = w.heap.size + 1 ∨ k = w.heap.size + 1 + 1) hbi H7.out.2.2.1 H7.out.2.2.2.2.1 (by
          rintro k (rfl | rfl)
          · exact ⟨_, _, H7.out.1.r4, notNum_slice _ _ _⟩
          · exact ⟨_, _, H7.out.1.r5, notNum_i64 _⟩)
        have hw8 := H7.out.1.below hbi.bel
        have r8 := RowAt.below H7.out.2.1 hbi.bel
        have hd8 : W8.heap[D1]? = some (.deferred (some [])) := (hbi.bel.block _ (Array.getElem?_eq_some_iff.1 H7.out.2.2.2.1).1).trans H7.out.2.2.2.1
        have hl8 := H7.out.2.2.1.below hbi.bel
        have hn8 := H7.out.2.2.2.2.2.below hbi.bel
        have H8 := hid (And.intro hS (And.intro hbn (And.intro hw8 (And.intro r8 (And.intro hd8 (And.intro hl8 hn8))))))
        clear hS hbn hw8 r8 hd8 hl8 hn8 hbi z6 HB
        gi_wp2
        refine range_both (s := 10) H8.out.1 H6.out.2.2.2.2.2.2.1 HMP.out.2.2.2.2.2.2.1 H6.out.2.2.2.2.2.1 HMP.out.2.1 H8.out.2.1 rfl
          (ChkI othP w (w.heap.size + 1) (w.heap.size + 1 + 1)) (StopI (partsZ (Lc.map PzV.m) ((Lp.map oldP).map PzV.m) bs2) othP 17 w (w.heap.size + 1) (w.heap.size + 1 + 1))
          chk_abide stop_abide chk_turn stop_turn chk_less stop_less ?start2 ?assign2 ?body2 ?done2 ?stop2
        case start2 =>
          exact ⟨⟨H8.out.2.2.1.r4, H8.out.2.2.1.r5, fun h => h.2 (.inl rfl), fun h => h.2 (.inr rfl)⟩, ⟨H8.out.2.2.1.bel.os, H8.out.2.2.1.bel.tape, H8.out.2.2.1.bel.output, H8.out.2.2.1.bel.size⟩, fun y hy => by cases hy⟩
        case assign2 =>
          intro l x W K hK
          have HK := hid hK
          clear hK
          simp only [List.setIfInBounds_toArray, List.set_cons_zero, List.set_cons_succ]
          gi_wp2
          exact HK.out
        case body2 =>
          rintro l pre x M Px W ⟨hbx, hf, hck⟩ hr hT hlen hM hge hnm
          obtain ⟨rest, hrest⟩ := hT.2.2.2.2
          have hxm : x.m ∈ partsZ (Lc.map PzV.m) ((Lp.map oldP).map PzV.m) bs2 := by rw [← hrest]; simp
          have hstep : othP x.m = false → ∀ y ∈ pre ++ [x], othP y.m = false := fun h1 y hy => by
            rcases List.mem_append.1 hy with hy | hy
            · exact hck y hy
            · rw [List.mem_singleton] at hy; subst hy; exact h1
          simp only [List.setIfInBounds_toArray, List.set_cons_zero, List.set_cons_succ]
          obtain ⟨xat, xpa, xca, la, xpb, xcb, lb, xp, xq⟩ := x
          obtain ⟨hba, hbb, -⟩ := hT
          simp only [PtV.m] at hxm hstep
          dsimp only [PtV.v, PtV.sa, PtV.sb] at hr hba hbb ⊢
          have x1 : W.cell? ⟨Px, 1, none⟩ = some (.slice xpa la.length xca) := hr.cell 1
          have x2 : W.cell? ⟨Px, 2, none⟩ = some (.slice xpb lb.length xcb) := hr.cell 2
          have x4 : W.cell? ⟨Px, 4, none⟩ = some (.int .i64 xq) := hr.cell 4
          have hX45 : w.heap.size + 1 ≠ w.heap.size + 1 + 1 := by omega
          have HB := hid (And.intro hbx (And.intro hf (And.intro hxm hstep)))
          clear hbx hf hck hxm hstep hlen hrest hM hge hnm hr
          by_cases hq : 0 < xq
          · have hqz : decide ((0 : Int) < xq) = true := decide_eq_true hq
            have hmp : othP ⟨xat, la, lb, xp, xq⟩ = (la != lb) := by unfold othP; rw [hqz]; rfl
            have HMQ := hid hmp
            have hEq := hid (bd_equal W xpa xpb la.length xca lb.length xcb la lb hba hbb)
            clear hmp hba hbb hq
            gi_wp2
            refine ⟨trivial, CallsIn.inRound l (callsIn_wide.2 (hEq.out.mono ?_))⟩
            rintro e W9 ⟨rfl, hb9⟩
            have hbx9 := HB.out.1.its (Its.of_below _ hb9)
            have herr := hbx9.err (m := 17) hX45
            have g4 := hbx9.r4.own 0
            have g5 := hbx9.r5.own 0
            have d4 : W9.cell? ⟨w.heap.size + 1, 0, none⟩ = some (.slice none 0 0) := hbx9.r4.cell 0
            have d5 : W9.cell? ⟨w.heap.size + 1 + 1, 0, none⟩ = some (.int .i64 0) := hbx9.r5.cell 0
            have t4 := herr.1
            have hf9 := HB.out.2.1.below hb9
            have hfe : FrV w (W9.setCell ⟨w.heap.size + 1 + 1, 0, none⟩ (.int .i64 17)) := ⟨hf9.os, hf9.tape, hf9.output, by simp [World.setCell]; exact hf9.size⟩
            have H9 := hid (And.intro hb9 (And.intro hbx9 (And.intro herr.2 (And.intro hf9 hfe))))
            clear hb9 hbx9 herr hf9 hfe x1 x2 x4
            by_cases hab : la = lb
            · have hbe : (la == lb) = true := by simp [hab]
              rw [hbe]
              have HA := hid hab
              clear hab
              gi_wp2
              exact ⟨_, fun k h => .inl h, StepV.below H9.out.1, H9.out.2.1, H9.out.2.2.2.1, HB.out.2.2.2 (by rw [HMQ.out]; simp [HA.out])⟩
            · have hbe : (la == lb) = false := by simpa using hab
              rw [hbe]
              have HA := hid hab
              clear hab
              gi_wp2
              exact ⟨_, fun k h => .inl h, (StepV.below (M := fun k => M k ∨ k = Px) H9.out.1).trans H9.out.2.2.1.2, H9.out.2.2.1.1, H9.out.2.2.2.2, _, HB.out.2.2.1, by rw [HMQ.out]; simpa using HA.out⟩
          · have hqz : decide ((0 : Int) < xq) = false := decide_eq_false hq
            have hmp : othP ⟨xat, la, lb, xp, xq⟩ = false := by unfold othP; rw [hqz]; rfl
            have HMQ := hid hmp
            clear hmp hba hbb hq
            gi_wp2
            refine ⟨trivial, ?_⟩
            gi_wp2
            exact ⟨_, fun k h => .inl h, StepV.refl _ _, HB.out.1, HB.out.2.1, HB.out.2.2.2 HMQ.out⟩
        case stop2 =>
          rintro D2 pre M W hD2 hsm ⟨hbx, hf, hmiss⟩ hd2
          have hX3 := H5.out.2.2.2.2.1
          obtain ⟨e1, e4, e5, s2, f2, b2⟩ := lay_stop H8.out.2.2.1.bel (fun k hk h => by rcases h with h | h <;> omega) hsm hf hbx hD2 hd2
          have l1 := (Array.getElem?_eq_some_iff.1 H8.out.2.2.2.2.1).1
          have hd1 : (W.putObj D2 (.deferred none)).heap[D1]? = some (.deferred (some [])) := (s2.blk D1 ⟨l1, fun h => by have := H6.out.2.2.2.2.2.2.2.2.2.2; rcases h with h | h <;> omega⟩).trans H8.out.2.2.2.2.1
          obtain ⟨e1, e4, e5, -⟩ := lay_stop (D := D1) (w4 := w) (X := fun _ => False) (Below.refl _ _) (fun k hk h => h) ⟨f2.size, fun k hk => e1.bel.block k hk.1⟩ f2 b2 (by have := H6.out.2.2.2.2.2.2.2.2.2.2; omega) hd1
          have e0 : layOf (L.map PzV.m) (rzV Ll Lg Lp) = (17, []) := by
            have h1 := (oth_parts (srt_may H6.out.2.2.2.2.2.1) (srt_may HMP.out.2.1) H8.out.2.1).1 hmiss
            rw [H6.out.2.2.2.2.1, cells_pieces, old_m] at h1
            unfold layOf layC rzV
            dsimp only
            rw [H6.out.2.2.2.2.2.2.2.1, h1]
            rfl
          have hR : R = (17, []) := by rw [HRR.out, e0]; rfl
          subst hR
          have HE := hid e1
          have Hd := hid (And.intro hd1 hd2)
          clear hbx hf hmiss hd1 hd2 hsm e1 hX3 s2 f2 b2 l1 e0
          gi_wp2
          refine ⟨by simp, .inl ⟨_, _, rfl, run_takeDeferred Hd.out.2, ?_⟩⟩
          refine ⟨by simp, .inl ⟨_, _, rfl, run_takeDeferred Hd.out.1, ?_⟩⟩
          refine ⟨.tuple #[.slice none 0 0, .int .i64 17], by simp [results, Tryz.results6, go_sem, e4, e5], ?_⟩
          exact ⟨_, rfl, HE.out⟩
        case done2 =>
          rintro D2 xs M W hD2 hx hsm ⟨hbx, hf, hck⟩ hd2
          have hX3 := H5.out.2.2.2.2.1
          have hD1l := H6.out.2.2.2.2.2.2.2.2.2.2
          have rowsX : ∀ k, (k = w.heap.size + 1 ∨ k = w.heap.size + 1 + 1) → ∃ t u, RowAt W8 k t #[u] ∧ NotNum u := by
            rintro k (rfl | rfl)
            · exact ⟨_, _, H8.out.2.2.1.r4, notNum_slice _ _ _⟩
            · exact ⟨_, _, H8.out.2.2.1.r5, notNum_i64 _⟩
          have hw : LayW w W #[.slice pl Ll.length cl, .slice pg Lg.length cg, .slice pp Lp.length cp] := by
            have h1 := H8.out.2.2.1.bel.size
            have h2 := H8.out.2.2.1.r3.lt
            exact ⟨⟨hf.os, hf.tape, hf.output, hf.size, fun k hk => (hsm.blk k ⟨by omega, fun h => by rcases h with h | h <;> omega⟩).trans (H8.out.2.2.1.bel.block k hk)⟩, (hsm.blk _ ⟨h2, fun h => by rcases h with h | h <;> omega⟩).trans H8.out.2.2.1.r3, hbx.r4, hbx.r5⟩
          have r6 : RowAt W W3.heap.size 24 #[.slice v1 Lc.length v2] := (hsm.blk _ ⟨H8.out.2.2.2.1.lt, fun h => by rcases h with h | h <;> omega⟩).trans H8.out.2.2.2.1
          have hl9 := H8.out.2.2.2.2.2.1.sameX hsm rowsX
          have hn9 := H8.out.2.2.2.2.2.2.sameX hsm rowsX
          have hd1 : W.heap[D1]? = some (.deferred (some [])) := (hsm.blk D1 ⟨(Array.getElem?_eq_some_iff.1 H8.out.2.2.2.2.1).1, fun h => by rcases h with h | h <;> omega⟩).trans H8.out.2.2.2.2.1
          have hoth : othC (minusC (cellsZ (L.map PzV.m)) (cellsZ (Ll.map PzV.m))) (cellsZ ((Lp.map PaV.m).map oldM)) = false := by
            have h1 := oth_parts (srt_may H6.out.2.2.2.2.2.1) (srt_may HMP.out.2.1) H8.out.2.1
            rw [H6.out.2.2.2.2.1, cells_pieces, old_m] at h1
            rw [← Bool.not_eq_true, ← h1]
            rintro ⟨r, hr, h2⟩
            rw [← cells_pieces (minusC _ _), ← H6.out.2.2.2.2.1, ← old_m] at hr
            rw [H6.out.2.2.2.2.1, cells_pieces, ← H6.out.2.2.2.2.1] at hr
            rw [← hx] at hr
            obtain ⟨y, hy, rfl⟩ := List.mem_map.1 hr
            rw [hck y hy] at h2; cases h2
          have hD2l : w.heap.size + 1 + 1 < D2 := by have := H8.out.2.2.1.r5.lt; omega
          have hne : D1 ≠ D2 := fun e => by have := (Array.getElem?_eq_some_iff.1 H8.out.2.2.2.2.1).1; omega
          have hmt := bd_meet W _ _ Lc Lg hl9 (H.out.2.2.1.below hw.bel) H6.out.2.2.2.2.2.2.1 H.out.2.2.2.2.2.2.2.1 H6.out.2.2.2.2.2.1 HMP.out.1
          obtain ⟨mt, hmte⟩ : ∃ b, b = meetZ (Lc.map PzV.m) (Lg.map PzV.m) := ⟨_, rfl⟩
          rw [← hmte] at hmt
          have hmc : mt = meetC (minusC (cellsZ (L.map PzV.m)) (cellsZ (Ll.map PzV.m))) (cellsZ (Lg.map PzV.m)) := by
            rw [hmte]
            show meetC (cellsZ (Lc.map PzV.m)) (cellsZ (Lg.map PzV.m)) = _
            rw [H6.out.2.2.2.2.1, cells_pieces]
          have z6 : W.cell? ⟨W3.heap.size, 0, none⟩ = some (.slice v1 Lc.length v2) := r6.cell 0
          have z1 : W.cell? ⟨w.heap.size, 1, none⟩ = some (.slice pg Lg.length cg) := hw.r3.cell 1
          have HMT := hid hmt
          have H9 := hid (And.intro hw (And.intro r6 (And.intro hl9 (And.intro hn9 (And.intro hd1 (And.intro hd2 (And.intro hoth (And.intro hD2l (And.intro hne hmc)))))))))
          clear hx hsm hbx hf hck hd1 hd2 hX3 hD1l rowsX hw r6 hl9 hn9 hoth hD2l hne hmt hmc hmte
          gi_wp2
          refine ⟨trivial, callsIn_wide.2 (HMT.out.mono ?_)⟩
          rintro e W10 ⟨rfl, hb10⟩
          have hw10 := H9.out.1.below hb10
          have r10 := RowAt.below H9.out.2.1 hb10
          have hl10 := H9.out.2.2.1.below hb10
          have hn10 := H9.out.2.2.2.1.below hb10
          have hdd1 : W10.heap[D1]? = some (.deferred (some [])) := (hb10.block _ (Array.getElem?_eq_some_iff.1 H9.out.2.2.2.2.1).1).trans H9.out.2.2.2.2.1
          have hdd2 : W10.heap[D2]? = some (.deferred (some [])) := (hb10.block _ (Array.getElem?_eq_some_iff.1 H9.out.2.2.2.2.2.1).1).trans H9.out.2.2.2.2.2.1
          have H10 := hid (And.intro hw10 (And.intro r10 (And.intro hl10 (And.intro hn10 (And.intro hdd1 hdd2)))))
          clear hb10 hw10 r10 hl10 hn10 hdd1 hdd2 z6 z1 HMT
          cases mt with
          | true =>
            have hR : R = (21, []) := by
              have e0 : layOf (L.map PzV.m) (rzV Ll Lg Lp) = (21, []) := layC_meet H6.out.2.2.2.2.2.2.2.1 H9.out.2.2.2.2.2.2.1 H9.out.2.2.2.2.2.2.2.2.2.symm
              rw [HRR.out, e0]; rfl
            subst hR
            have hbox : BoxV (fun _ => False) (w.heap.size + 1) (w.heap.size + 1 + 1) W10 0 := ⟨H10.out.1.r4, H10.out.1.r5, fun h => h, fun h => h⟩
            have herr := hbox.err (m := 21) (by omega)
            have f4 := hbox.r4.own 0
            have f5 := hbox.r5.own 0
            have c4 : W10.cell? ⟨w.heap.size + 1, 0, none⟩ = some (.slice none 0 0) := hbox.r4.cell 0
            have c5 : W10.cell? ⟨w.heap.size + 1 + 1, 0, none⟩ = some (.int .i64 0) := hbox.r5.cell 0
            have s4 := herr.1
            have hb11 : Below w.heap.size w (W10.setCell ⟨w.heap.size + 1 + 1, 0, none⟩ (.int .i64 21)) := (layW_err H10.out.1 21).1.bel
            have hf11 : FrV w (W10.setCell ⟨w.heap.size + 1 + 1, 0, none⟩ (.int .i64 21)) := ⟨hb11.os, hb11.tape, hb11.output, hb11.size⟩
            have hd2 : (W10.setCell ⟨w.heap.size + 1 + 1, 0, none⟩ (.int .i64 21)).heap[D2]? = some (.deferred (some [])) := (heap_setCell_other _ _ _ _ (show D2 ≠ w.heap.size + 1 + 1 by have := H9.out.2.2.2.2.2.2.2.1; omega)).trans H10.out.2.2.2.2.2
            have hd1 : (W10.setCell ⟨w.heap.size + 1 + 1, 0, none⟩ (.int .i64 21)).heap[D1]? = some (.deferred (some [])) := (heap_setCell_other _ _ _ _ (show D1 ≠ w.heap.size + 1 + 1 by have := H6.out.2.2.2.2.2.2.2.2.2.2; omega)).trans H10.out.2.2.2.2.1
            obtain ⟨e1, e4, e5, s2, f2, b2⟩ := lay_stop (D := D2) (w4 := w) (X := fun _ => False) (Below.refl _ _) (fun k hk h => h) ⟨hf11.size, fun k hk => hb11.block k hk.1⟩ hf11 herr.2.1 (by have := H9.out.2.2.2.2.2.2.2.1; omega) hd2
            have hd1' : ((W10.setCell ⟨w.heap.size + 1 + 1, 0, none⟩ (.int .i64 21)).putObj D2 (.deferred none)).heap[D1]? = some (.deferred (some [])) := (World.putObj_heap_other H9.out.2.2.2.2.2.2.2.2.1).trans hd1
            obtain ⟨e1, e4, e5, -⟩ := lay_stop (D := D1) (w4 := w) (X := fun _ => False) (Below.refl _ _) (fun k hk h => h) s2 f2 b2 (by have := H6.out.2.2.2.2.2.2.2.2.2.2; omega) hd1'
            have HE := hid e1
            have Hd := hid (And.intro hd1' hd2)
            clear hbox herr hb11 hf11 hd1 hd2 hd1' s2 f2 b2 e1
            gi_wp2
            refine ⟨by simp, .inl ⟨_, _, rfl, run_takeDeferred Hd.out.2, ?_⟩⟩
            refine ⟨by simp, .inl ⟨_, _, rfl, run_takeDeferred Hd.out.1, ?_⟩⟩
            refine ⟨.tuple #[.slice none 0 0, .int .i64 21], by simp [results, Tryz.results6, go_sem, e4, e5], ?_⟩
            exact ⟨_, rfl, HE.out⟩
          | false =>
            obtain ⟨hb11, r11, r12, hs11⟩ := alloc2 W10 (.cells #[.slice none 0 0] 24) (.cells #[.slice none 0 0] 24)
            obtain ⟨W11, hW11⟩ : ∃ W11, W11 = (W10.alloc (.cells #[.slice none 0 0] 24)).alloc (.cells #[.slice none 0 0] 24) := ⟨_, rfl⟩
            rw [← hW11] at hb11 r11 r12 hs11
            have hw11 := H10.out.1.below hb11
            have hl11 := H10.out.2.2.1.below hb11
            have hn11 := H10.out.2.2.2.1.below hb11
            have hd1 : W11.heap[D1]? = some (.deferred (some [])) := (hb11.block _ (Array.getElem?_eq_some_iff.1 H10.out.2.2.2.2.1).1).trans H10.out.2.2.2.2.1
            have hd2 : W11.heap[D2]? = some (.deferred (some [])) := (hb11.block _ (Array.getElem?_eq_some_iff.1 H10.out.2.2.2.2.2).1).trans H10.out.2.2.2.2.2
            have r6 := RowAt.below H10.out.2.1 hb11
            have z6 : W11.cell? ⟨W3.heap.size, 0, none⟩ = some (.slice v1 Lc.length v2) := r6.cell 0
            rw [hW11] at z6
            have hbo := bd_both W11 _ _ Lc (Lp.map newP) hl11 hn11 H6.out.2.2.2.2.2.2.1 HMP.out.2.2.2.2.2.2.2 (srt_may H6.out.2.2.2.2.2.1) (srt_may HMP.out.2.2.1)
            have hX10 : w.heap.size + 1 + 1 < W10.heap.size := H10.out.1.r5.lt
            have HW11 := hid hW11.symm
            have HB3 := hid hbo
            have H11 := hid (And.intro hw11 (And.intro r11 (And.intro r12 (And.intro hs11 (And.intro hl11 (And.intro hn11 (And.intro hd1 (And.intro hd2 hX10))))))))
            clear hb11 r11 r12 hs11 hw11 hl11 hn11 hd1 hd2 r6 hbo hW11 hX10
            gi_wp2
            rw [HW11.out]
            refine ⟨trivial, callsIn_wide.2 (HB3.out.mono ?_)⟩
            rintro e W12 ⟨rfl, vt3, bs3, hbi, hbn⟩
            have rowsX : ∀ k, (k = w.heap.size + 1 ∨ k = w.heap.size + 1 + 1 ∨ k = W10.heap.size) → ∃ t u, RowAt W11 k t #[u] ∧ NotNum u := by
              rintro k (rfl | rfl | rfl)
              · exact ⟨_, _, H11.out.1.r4, notNum_slice _ _ _⟩
              · exact ⟨_, _, H11.out.1.r5, notNum_i64 _⟩
              · exact ⟨_, _, H11.out.2.1, notNum_slice _ _ _⟩
            have hS := boths_of hbi H11.out.2.2.2.2.1 H11.out.2.2.2.2.2.1 rowsX
            have hw12 := H11.out.1.below hbi.bel
            have r11 := RowAt.below H11.out.2.1 hbi.bel
            have r12 := RowAt.below H11.out.2.2.1 hbi.bel
            have hd1 : W12.heap[D1]? = some (.deferred (some [])) := (hbi.bel.block _ (Array.getElem?_eq_some_iff.1 H11.out.2.2.2.2.2.2.1).1).trans H11.out.2.2.2.2.2.2.1
            have hd2 : W12.heap[D2]? = some (.deferred (some [])) := (hbi.bel.block _ (Array.getElem?_eq_some_iff.1 H11.out.2.2.2.2.2.2.2.1).1).trans H11.out.2.2.2.2.2.2.2.1
            have hs12 : W10.heap.size + 2 ≤ W12.heap.size := by have := hbi.bel.size; have := H11.out.2.2.2.1; omega
            have hhas : HasAll (cellsZ (Lc.map PzV.m)) (cellsZ ((Lp.map newP).map PzV.m)) := by
              rw [H6.out.2.2.2.2.1, cells_pieces, new_m]
              exact has_new H6.out.2.2.2.2.2.2.2.2.1 HMP.out.2.2.2.1 H9.out.2.2.2.2.2.2.1
            have hpos := pat_pos (srt_may H6.out.2.2.2.2.2.1) (srt_may HMP.out.2.2.1) hbn hhas
            have H12 := hid (And.intro hS (And.intro hbn (And.intro hw12 (And.intro r11 (And.intro r12 (And.intro hd1 (And.intro hd2 (And.intro hs12 (And.intro hhas hpos)))))))))
            clear hS hbn hw12 r11 r12 hd1 hd2 hs12 hbi rowsX z6 HB3 hhas hpos
            gi_wp2
            refine range_both (s := 13) H12.out.1 H6.out.2.2.2.2.2.2.1 HMP.out.2.2.2.2.2.2.2 H6.out.2.2.2.2.2.1 HMP.out.2.2.1 H12.out.2.1 rfl
              (AccI patS (fun _ => false) w (W10.heap.size + 2) W10.heap.size (w.heap.size + 1) (w.heap.size + 1 + 1)) NoneI
              acc_abide none_abide acc_turn none_turn acc_less none_less ?start3 ?assign3 ?body3 ?done3 ?stop3
            case start3 =>
              exact ⟨_, [], OneV.nil H12.out.2.2.2.1 (fun h => h.2 (.inr (.inr rfl))) (by omega), ⟨H12.out.2.2.1.r4, H12.out.2.2.1.r5, fun h => h.2 (.inl rfl), fun h => h.2 (.inr (.inl rfl))⟩, ⟨H12.out.2.2.1.bel.os, H12.out.2.2.1.bel.tape, H12.out.2.2.1.bel.output, H12.out.2.2.1.bel.size⟩, rfl, fun y hy => by cases hy⟩
            case assign3 =>
              intro l x W K hK
              have HK := hid hK
              clear hK
              simp only [List.setIfInBounds_toArray, List.set_cons_zero, List.set_cons_succ]
              gi_wp2
              exact HK.out
            case stop3 => intro D pre M W hD hsm h hd; exact h.elim
            case body3 =>
              rintro l pre x M Px W ⟨v, Lq, ho, hbx, hf, hm, -⟩ hr hT hlen hM hge hnm
              obtain ⟨rest, hrest⟩ := hT.2.2.2.2
              have hxm : x.m ∈ partsZ (Lc.map PzV.m) ((Lp.map newP).map PzV.m) bs3 := by rw [← hrest]; simp
              obtain ⟨fa, fb, fpos, fp0, fq0, flen⟩ := parts_full (srt_may H6.out.2.2.2.2.2.1) (srt_may HMP.out.2.2.1) H12.out.2.1 x.m hxm
              obtain ⟨fma, fmb⟩ := parts_max (srt_may H6.out.2.2.2.2.2.1) (srt_may HMP.out.2.2.1) H12.out.2.1 hxm
              have hp := H12.out.2.2.2.2.2.2.2.2.2 x.m hxm
              have hLc : Lq.length ≤ 100000 := by
                have h1 := acc_len len_patS (pre.map PtV.m) []
                rw [← hm, List.length_map, List.length_map] at h1
                simp only [List.length_nil] at h1
                omega
              have hBs : W10.heap.size + 2 ≤ W.heap.size := by
                have h1 := hM Px (.inr rfl)
                have h2 := H12.out.2.2.2.2.2.2.2.1
                omega
              have hfold : ∀ out, out = (pre.map PtV.m).foldl patS [] → patS out x.m = ((pre ++ [x]).map PtV.m).foldl patS [] := fun out h => by rw [List.map_append, List.foldl_append, ← h]; rfl
              have hX3 : w.heap.size + 1 + 1 < W10.heap.size := H11.out.2.2.2.2.2.2.2.2
              simp only [List.setIfInBounds_toArray, List.set_cons_zero, List.set_cons_succ]
              obtain ⟨xat, xpa, xca, la, xpb, xcb, lb, xp, xq⟩ := x
              obtain ⟨hba, hbb, hka, hkb, -⟩ := hT
              simp only [PtV.m] at fa fb fpos fp0 fq0 flen fma fmb hxm hfold hp
              obtain ⟨v1', v2', rfl⟩ := ho.form
              dsimp only [PtV.v, PtV.sa, PtV.sb] at hr hba hbb hka hkb ⊢
              have x4 : W.cell? ⟨Px, 4, none⟩ = some (.int .i64 xq) := hr.cell 4
              have hfin : ∀ (bb : List UInt8) (W5 : World) (e : Ending) (W6 : World) (u : Value), FrV w W5 → StepV M W W5 → BoxV M (w.heap.size + 1) (w.heap.size + 1 + 1) W5 0 → patS ((pre.map PtV.m).foldl patS []) ⟨xat, la, lb, xp, xq⟩ = putP (Lq.map PzV.m) xat xp bb → PutV M (W10.heap.size + 2) W10.heap.size W5 u (putP (Lq.map PzV.m) xat xp bb) e W6 →
                  ∃ v3 n3 v4, e = .returned (.slice v3 n3 v4) ∧ RowAt W6 W10.heap.size 24 #[u] ∧ StepV M W (W6.setCell ⟨W10.heap.size, 0, none⟩ (.slice v3 n3 v4)) ∧ AccI patS (fun _ => false) w (W10.heap.size + 2) W10.heap.size (w.heap.size + 1) (w.heap.size + 1 + 1) (pre ++ [⟨xat, xpa, xca, la, xpb, xcb, lb, xp, xq⟩]) M (W6.setCell ⟨W10.heap.size, 0, none⟩ (.slice v3 n3 v4)) := by
                rintro bb W5 e W6 u hf5 hs5 hbx5 hst ⟨v6, L6, rfl, hm6, ho6, hs6, hk6, hr6, v3, v4, rfl⟩
                have l4 := hbx5.r4.lt
                have l5 := hbx5.r5.lt
                exact ⟨_, _, _, rfl, hr6, hs5.trans hs6, _, L6, ho6, ⟨(hk6 _ (by omega) (by omega) l4).trans hbx5.r4, (hk6 _ (by omega) (by omega) l5).trans hbx5.r5, hbx5.x4, hbx5.x5⟩, hf5.kept hs6.kept, by rw [← hfold _ rfl, hst, hm6], fun _ _ => rfl⟩
              by_cases hq : 0 < xq
              · have hqz : decide ((0 : Int) < xq) = true := decide_eq_true hq
                have x2 : W.cell? ⟨Px, 2, none⟩ = some (.slice xpb lb.length xcb) := hr.cell 2
                have x1 : W.cell? ⟨Px, 1, none⟩ = some (.slice xpa la.length xca) := hr.cell 1
                have f1 := hr.own 1
                have hr5 : RowAt (W.setCell ⟨Px, 1, none⟩ (.slice xpb lb.length xcb)) Px 81 #[.int .u64 (xat : Int), .slice xpb lb.length xcb, .slice xpb lb.length xcb, .int .i64 xp, .int .i64 xq] := hr.same (i := 1) _
                have ho5 : OneV M (W10.heap.size + 2) W10.heap.size (W.setCell ⟨Px, 1, none⟩ (.slice xpb lb.length xcb)) _ Lq := ho.setP
                have hbx5 : BoxV M (w.heap.size + 1) (w.heap.size + 1 + 1) (W.setCell ⟨Px, 1, none⟩ (.slice xpb lb.length xcb)) 0 := hbx.setP
                have hf5 : FrV w (W.setCell ⟨Px, 1, none⟩ (.slice xpb lb.length xcb)) := ⟨hf.os, hf.tape, hf.output, by simp [World.setCell]; exact hf.size⟩
                have hs5 : StepV M W (W.setCell ⟨Px, 1, none⟩ (.slice xpb lb.length xcb)) := ⟨Kept.set _ hnm, KeepsOthers.setCell _ _ _⟩
                have hz5 : (W.setCell ⟨Px, 1, none⟩ (.slice xpb lb.length xcb)).heap.size = W.heap.size := by simp [World.setCell]
                have hbb5 : BS (W.setCell ⟨Px, 1, none⟩ (.slice xpb lb.length xcb)) (.slice xpb lb.length xcb) lb := hbb.of_block (fun k hk _ => heap_setCell_other _ _ _ _ (fun e => hnm (by have e : k = Px := e; rw [← e]; exact hkb k hk)))
                have hput := lay_put M (W10.heap.size + 2) W10.heap.size _ _ Lq ho5 (by rw [hz5]; exact hBs) (fun k hk => by rw [hz5]; exact hM k (.inl hk)) hLc xat xp xpb xcb lb hbb5 (fb hq) (fmb (fb hq))
                have y0 : (W.setCell ⟨Px, 1, none⟩ (.slice xpb lb.length xcb)).cell? ⟨Px, 0, none⟩ = some (.int .u64 (xat : Int)) := hr5.cell 0
                have y1 : (W.setCell ⟨Px, 1, none⟩ (.slice xpb lb.length xcb)).cell? ⟨Px, 1, none⟩ = some (.slice xpb lb.length xcb) := hr5.cell 1
                have y3 : (W.setCell ⟨Px, 1, none⟩ (.slice xpb lb.length xcb)).cell? ⟨Px, 3, none⟩ = some (.int .i64 xp) := hr5.cell 3
                have r11 : (W.setCell ⟨Px, 1, none⟩ (.slice xpb lb.length xcb)).cell? ⟨W10.heap.size, 0, none⟩ = some (.slice v1' Lq.length v2') := ho5.row.cell 0
                have hst : patS ((pre.map PtV.m).foldl patS []) ⟨xat, la, lb, xp, xq⟩ = putP (Lq.map PzV.m) xat xp lb := (patS_yes _ _ hq).trans (by rw [hm])
                have HP := hid hput
                have HF := hid (fun e W6 h => hfin lb (W.setCell ⟨Px, 1, none⟩ (.slice xpb lb.length xcb)) e W6 (.slice v1' Lq.length v2') hf5 hs5 hbx5 hst h)
                clear hput hfin ho hbx hf hm hr hba hbb hka hkb hr5 ho5 hbx5 hf5 hs5 hz5 hbb5 hst fa fb fpos fp0 fq0 flen fma fmb hxm hfold hp hLc hBs hX3 hM hge hnm hlen hrest hq
                gi_wp2
                refine ⟨trivial, CallsIn.inRound l (callsIn_wide.2 (HP.out.mono ?_))⟩
                intro e W6 hend
                obtain ⟨v3, n3, v4, rfl, hr6, hs6, hA⟩ := HF.out e W6 hend
                have r7 : W6.cell? ⟨W10.heap.size, 0, none⟩ = some (.slice v1' Lq.length v2') := hr6.cell 0
                have f7 := hr6.own 0
                have HA := hid (And.intro hs6 hA)
                clear hend hr6 hs6 hA
                gi_wp2
                exact ⟨_, fun k h => h, HA.out⟩
              · have hqz : decide ((0 : Int) < xq) = false := decide_eq_false hq
                have x0 : W.cell? ⟨Px, 0, none⟩ = some (.int .u64 (xat : Int)) := hr.cell 0
                have x1 : W.cell? ⟨Px, 1, none⟩ = some (.slice xpa la.length xca) := hr.cell 1
                have x3 : W.cell? ⟨Px, 3, none⟩ = some (.int .i64 xp) := hr.cell 3
                have ho5 : OneV M (W10.heap.size + 2) W10.heap.size W _ Lq := ho.less (fun k hk => .inl hk)
                have hbx5 : BoxV M (w.heap.size + 1) (w.heap.size + 1 + 1) W 0 := hbx.less (fun k hk => .inl hk)
                have hput := lay_put M (W10.heap.size + 2) W10.heap.size _ _ Lq ho5 hBs (fun k hk => hM k (.inl hk)) hLc xat xp xpa xca la hba (fa hp) (fma (fa hp))
                have r11 : W.cell? ⟨W10.heap.size, 0, none⟩ = some (.slice v1' Lq.length v2') := ho5.row.cell 0
                have hst : patS ((pre.map PtV.m).foldl patS []) ⟨xat, la, lb, xp, xq⟩ = putP (Lq.map PzV.m) xat xp la := (patS_no _ _ hq).trans (by rw [hm])
                have HP := hid hput
                have HF := hid (fun e W6 h => hfin la W e W6 (.slice v1' Lq.length v2') hf (StepV.refl _ _) hbx5 hst h)
                clear hput hfin ho hbx hf hm hr hba hbb hka hkb ho5 hbx5 hst fa fb fpos fp0 fq0 flen fma fmb hxm hfold hp hLc hBs hX3 hM hge hnm hlen hrest hq
                gi_wp2
                refine ⟨trivial, CallsIn.inRound l (callsIn_wide.2 (HP.out.mono ?_))⟩
                intro e W6 hend
                obtain ⟨v3, n3, v4, rfl, hr6, hs6, hA⟩ := HF.out e W6 hend
                have r7 : W6.cell? ⟨W10.heap.size, 0, none⟩ = some (.slice v1' Lq.length v2') := hr6.cell 0
                have f7 := hr6.own 0
                have HA := hid (And.intro hs6 hA)
                clear hend hr6 hs6 hA
                gi_wp2
                exact ⟨_, fun k h => h, HA.out⟩
            case done3 =>
              rintro D3 xs M W hD3 hx hsm ⟨v, Lq, ho, hbx, hf, hm, -⟩ hd3
              have hX3 := H5.out.2.2.2.2.1
              have hX10 := H11.out.2.2.2.2.2.2.2.2
              have hD1l := H6.out.2.2.2.2.2.2.2.2.2.2
              have hD2l := H9.out.2.2.2.2.2.2.2.1
              have l1 := (Array.getElem?_eq_some_iff.1 H10.out.2.2.2.2.1).1
              have l2 := (Array.getElem?_eq_some_iff.1 H10.out.2.2.2.2.2).1
              have hs12 := H12.out.2.2.2.2.2.2.2.1
              have hw : LayW w W #[.slice pl Ll.length cl, .slice pg Lg.length cg, .slice pp Lp.length cp] := by
                have h1 := H12.out.2.2.1.bel.size
                have h2 := H12.out.2.2.1.r3.lt
                exact ⟨⟨hf.os, hf.tape, hf.output, hf.size, fun k hk => (hsm.blk k ⟨by omega, fun h => by rcases h with h | h | h <;> omega⟩).trans (H12.out.2.2.1.bel.block k hk)⟩, (hsm.blk _ ⟨h2, fun h => by rcases h with h | h | h <;> omega⟩).trans H12.out.2.2.1.r3, hbx.r4, hbx.r5⟩
              have r12 : RowAt W (W10.heap.size + 1) 24 #[.slice none 0 0] := (hsm.blk _ ⟨by omega, fun h => by rcases h with h | h | h <;> omega⟩).trans H12.out.2.2.2.2.1
              have hd1 : W.heap[D1]? = some (.deferred (some [])) := (hsm.blk D1 ⟨by omega, fun h => by rcases h with h | h | h <;> omega⟩).trans H12.out.2.2.2.2.2.1
              have hd2 : W.heap[D2]? = some (.deferred (some [])) := (hsm.blk D2 ⟨by omega, fun h => by rcases h with h | h | h <;> omega⟩).trans H12.out.2.2.2.2.2.2.1
              rw [hx, pat_is (srt_may H6.out.2.2.2.2.2.1) (srt_may HMP.out.2.2.1) H12.out.2.1 H12.out.2.2.2.2.2.2.2.2.1, H6.out.2.2.2.2.1, cells_pieces, new_m] at hm
              have hok : OkC (patC (minusC (cellsZ (L.map PzV.m)) (cellsZ (Ll.map PzV.m))) (cellsZ ((Lp.map PaV.m).map newM))) := okC_pat H6.out.2.2.2.2.2.2.2.2.1
              have hmq : mayZ (Lq.map PzV.m) = true := by rw [hm]; exact may_pieces _ hok
              have hlq : Lq.length ≤ 20000 := by
                have h1 := pieces_len (patC (minusC (cellsZ (L.map PzV.m)) (cellsZ (Ll.map PzV.m))) (cellsZ ((Lp.map PaV.m).map newM)))
                rw [← hm, List.length_map, patC_len] at h1
                have h2 : (minusC (cellsZ (L.map PzV.m)) (cellsZ (Ll.map PzV.m))).length ≤ (cellsZ (L.map PzV.m)).length := List.length_filter_le _ _
                have h3 := H.out.2.2.2.2.2.2.2.2.2
                omega
              obtain ⟨v1', v2', rfl⟩ := ho.form
              have hne3 : D1 ≠ D3 ∧ D2 ≠ D3 := ⟨by omega, by omega⟩
              have hlr := ho.l.reads
              have hbo := bd_both W _ _ Lq Lg hlr (H.out.2.2.1.below hw.bel) hlq H.out.2.2.2.2.2.2.2.1 (srt_may hmq) (srt_may HMP.out.1)
              have z11 : W.cell? ⟨W10.heap.size, 0, none⟩ = some (.slice v1' Lq.length v2') := ho.row.cell 0
              have z1 : W.cell? ⟨w.heap.size, 1, none⟩ = some (.slice pg Lg.length cg) := hw.r3.cell 1
              have HB4 := hid hbo
              have hD3l : w.heap.size + 1 + 1 < D3 := by omega
              have H13 := hid (And.intro hw (And.intro r12 (And.intro hd1 (And.intro hd2 (And.intro hd3 (And.intro hne3 (And.intro hlr (And.intro hm (And.intro hmq (And.intro hlq (And.intro hok (And.intro hX10 hD3l))))))))))))
              have HX := hid (And.intro l1 (And.intro l2 hs12))
              clear hX3 hX10 hD1l hD2l l1 l2 hs12 hw r12 hd1 hd2 hd3 hne3 hlr hm hmq hlq hok hbo hsm hx ho hbx hf hD3l
              gi_wp2
              refine ⟨trivial, callsIn_wide.2 (HB4.out.mono ?_)⟩
              rintro e W14 ⟨rfl, vt4, bs4, hbi, hbn⟩
              have rowsX : ∀ k, (k = w.heap.size + 1 ∨ k = w.heap.size + 1 + 1 ∨ k = W10.heap.size + 1) → ∃ t u, RowAt W k t #[u] ∧ NotNum u := by
                rintro k (rfl | rfl | rfl)
                · exact ⟨_, _, H13.out.1.r4, notNum_slice _ _ _⟩
                · exact ⟨_, _, H13.out.1.r5, notNum_i64 _⟩
                · exact ⟨_, _, H13.out.2.1, notNum_slice _ _ _⟩
              have hS := boths_of hbi H13.out.2.2.2.2.2.2.1 (H.out.2.2.1.below H13.out.1.bel) rowsX
              have hw14 := H13.out.1.below hbi.bel
              have r12 := RowAt.below H13.out.2.1 hbi.bel
              have hd1 : W14.heap[D1]? = some (.deferred (some [])) := (hbi.bel.block _ (Array.getElem?_eq_some_iff.1 H13.out.2.2.1).1).trans H13.out.2.2.1
              have hd2 : W14.heap[D2]? = some (.deferred (some [])) := (hbi.bel.block _ (Array.getElem?_eq_some_iff.1 H13.out.2.2.2.1).1).trans H13.out.2.2.2.1
              have hd3 : W14.heap[D3]? = some (.deferred (some [])) := (hbi.bel.block _ (Array.getElem?_eq_some_iff.1 H13.out.2.2.2.2.1).1).trans H13.out.2.2.2.2.1
              have hs14 : W10.heap.size + 2 ≤ W14.heap.size := by have := r12.lt; omega
              have hnm : meetC (cellsZ (Lq.map PzV.m)) (cellsZ (Lg.map PzV.m)) = false := by
                rw [H13.out.2.2.2.2.2.2.2.1, cells_pieces, meet_pat]
                exact H9.out.2.2.2.2.2.2.2.2.2.symm
              have H14 := hid (And.intro hS (And.intro hbn (And.intro hw14 (And.intro r12 (And.intro hd1 (And.intro hd2 (And.intro hd3 (And.intro hs14 hnm))))))))
              clear hS hbn hw14 r12 hd1 hd2 hd3 hs14 hbi rowsX z11 z1 HB4 hnm
              gi_wp2
              refine range_both (s := 14) H14.out.1 H13.out.2.2.2.2.2.2.2.2.2.1 H.out.2.2.2.2.2.2.2.1 H13.out.2.2.2.2.2.2.2.2.1 HMP.out.1 H14.out.2.1 rfl
                (AccI outS (fun _ => false) w (W10.heap.size + 2) (W10.heap.size + 1) (w.heap.size + 1) (w.heap.size + 1 + 1)) NoneI
                acc_abide none_abide acc_turn none_turn acc_less none_less ?start4 ?assign4 ?body4 ?done4 ?stop4
              case start4 =>
                exact ⟨_, [], OneV.nil H14.out.2.2.2.1 (fun h => h.2 (.inr (.inr rfl))) (by omega), ⟨H14.out.2.2.1.r4, H14.out.2.2.1.r5, fun h => h.2 (.inl rfl), fun h => h.2 (.inr (.inl rfl))⟩, ⟨H14.out.2.2.1.bel.os, H14.out.2.2.1.bel.tape, H14.out.2.2.1.bel.output, H14.out.2.2.1.bel.size⟩, rfl, fun y hy => by cases hy⟩
              case assign4 =>
                intro l x W K hK
                have HK := hid hK
                clear hK
                simp only [List.setIfInBounds_toArray, List.set_cons_zero, List.set_cons_succ]
                gi_wp2
                exact HK.out
              case stop4 => intro D pre M W hD hsm h hd; exact h.elim
              case body4 =>
                rintro l pre x M Px W ⟨v, Lq2, ho, hbx, hf, hm, -⟩ hr hT hlen hM hge hnm
                obtain ⟨rest, hrest⟩ := hT.2.2.2.2
                have hxm : x.m ∈ partsZ (Lq.map PzV.m) (Lg.map PzV.m) bs4 := by rw [← hrest]; simp
                obtain ⟨fa, fb, fpos, fp0, fq0, flen⟩ := parts_full (srt_may H13.out.2.2.2.2.2.2.2.2.1) (srt_may HMP.out.1) H14.out.2.1 x.m hxm
                obtain ⟨fma, fmb⟩ := parts_max (srt_may H13.out.2.2.2.2.2.2.2.2.1) (srt_may HMP.out.1) H14.out.2.1 hxm
                obtain ⟨s7a, s7b⟩ := part_7 H13.out.2.2.2.2.2.2.2.2.1 HMP.out.1 hxm
                have hone : x.m.a = [] ∨ x.m.b = [] := by
                  obtain ⟨y, hy, e⟩ := parts_of hxm
                  have h1 := one_part (ptOf_ok (srt_may H13.out.2.2.2.2.2.2.2.2.1) (srt_may HMP.out.1) H14.out.2.1 hy) H14.out.2.2.2.2.2.2.2.2
                  rw [e] at h1
                  exact h1.imp And.right And.right
                have hLc : Lq2.length ≤ 100000 := by
                  have h1 := acc_len len_outS (pre.map PtV.m) []
                  rw [← hm, List.length_map, List.length_map] at h1
                  simp only [List.length_nil] at h1
                  omega
                have hBs : W10.heap.size + 2 ≤ W.heap.size := by
                  have h1 := hM Px (.inr rfl)
                  have h2 := H14.out.2.2.2.2.2.2.2.1
                  omega
                have hfold : outS ((pre.map PtV.m).foldl outS []) x.m = ((pre ++ [x]).map PtV.m).foldl outS [] := by rw [List.map_append, List.foldl_append]; rfl
                have hX3 : w.heap.size + 1 + 1 < W10.heap.size := H13.out.2.2.2.2.2.2.2.2.2.2.2.1
                simp only [List.setIfInBounds_toArray, List.set_cons_zero, List.set_cons_succ]
                obtain ⟨xat, xpa, xca, la, xpb, xcb, lb, xp, xq⟩ := x
                obtain ⟨hba, hbb, -⟩ := hT
                simp only [PtV.m] at fa fb fpos fp0 fq0 flen fma fmb hxm hfold s7a s7b hone
                obtain ⟨u1, u2, rfl⟩ := ho.form
                dsimp only [PtV.v, PtV.sa, PtV.sb] at hr hba hbb ⊢
                have hne : la ++ lb ≠ [] := fun e => by
                  rw [List.append_eq_nil_iff] at e
                  by_cases hp : 0 < xp
                  · exact fa hp e.1
                  · exact fb (by omega) e.2
                have hmax : xat + (la ++ lb).length ≤ MAXA := by
                  rcases hone with e | e
                  · rw [e] at hne ⊢; exact fmb hne
                  · rw [e, List.append_nil] at hne ⊢; exact fma hne
                have hlen63 : la.length + lb.length ≤ 140737488355328 := by
                  rw [List.length_append] at hmax
                  unfold MAXA at hmax
                  omega
                have hpq : IntKind.i64.wrap (xp + xq) = xp + xq := IntWalk.i64_in _ (by omega)
                obtain ⟨n, hn⟩ : ∃ n, n = la.length := ⟨_, rfl⟩
                rw [← hn] at hr hba ⊢
                have hsl := fun (V : World) => run_subhm (P := Tryz.prog) (w := V) (t := 72) xpa n xca un_bsB (sz_u8B V) .i64 .i64 (n : Int) (n : Int) (by omega) (Int.le_refl _) (by have := hba; obtain ⟨_, _, e, h1, -⟩ := this; cases e; omega)
                simp only [Int.toNat_natCast] at hsl
                obtain ⟨iu, RU⟩ := u8rowB
                have hbW := below_drewP W
                obtain ⟨W5, hW5⟩ : ∃ W5, W5 = W.drew := ⟨_, rfl⟩
                rw [← hW5] at hbW
                have hr5 := RowAt.below hr hbW
                have ho5 := ho.below hbW
                have hbx5 := hbx.its (Its.of_below _ hbW)
                have hf5 := hf.below hbW
                have z0 : W5.cell? ⟨W10.heap.size + 1, 0, none⟩ = some (.slice u1 Lq2.length u2) := ho5.row.cell 0
                have x0 : W5.cell? ⟨Px, 0, none⟩ = some (.int .u64 (xat : Int)) := hr5.cell 0
                have x1 : W5.cell? ⟨Px, 1, none⟩ = some (.slice xpa n xca) := hr5.cell 1
                have x2 : W5.cell? ⟨Px, 2, none⟩ = some (.slice xpb lb.length xcb) := hr5.cell 2
                have x3 : W5.cell? ⟨Px, 3, none⟩ = some (.int .i64 xp) := hr5.cell 3
                have x4 : W5.cell? ⟨Px, 4, none⟩ = some (.int .i64 xq) := hr5.cell 4
                have HB := hid (And.intro ho5 (And.intro hbx5 (And.intro hf5 (And.intro hm (And.intro (hba.below hbW).full (And.intro (hbb.below hbW) (And.intro hLc (And.intro hBs (And.intro hM (And.intro hfold (And.intro hne (And.intro hmax (And.intro hlen63 (And.intro hn (And.intro hX3 (And.intro hbW hr5))))))))))))))))
                have HU := hid RU
                gi_wp2
                refine regionG_round (fun V : World => V.cell? ⟨W10.heap.size + 1, 0, none⟩ = some (.slice u1 Lq2.length u2) ∧ V.cell? ⟨Px, 0, none⟩ = some (.int .u64 (xat : Int)) ∧ V.cell? ⟨Px, 1, none⟩ = some (.slice xpa n xca) ∧ V.cell? ⟨Px, 2, none⟩ = some (.slice xpb lb.length xcb) ∧ V.cell? ⟨Px, 3, none⟩ = some (.int .i64 xp) ∧ V.cell? ⟨Px, 4, none⟩ = some (.int .i64 xq)) [20] (by kernel_rfl) (by kernel_rfl) (fun ⟨_, _, h⟩ => h) ?_
                rw [← hW5]
                have hS : (fun V : World => V.cell? ⟨W10.heap.size + 1, 0, none⟩ = some (.slice u1 Lq2.length u2) ∧ V.cell? ⟨Px, 0, none⟩ = some (.int .u64 (xat : Int)) ∧ V.cell? ⟨Px, 1, none⟩ = some (.slice xpa n xca) ∧ V.cell? ⟨Px, 2, none⟩ = some (.slice xpb lb.length xcb) ∧ V.cell? ⟨Px, 3, none⟩ = some (.int .i64 xp) ∧ V.cell? ⟨Px, 4, none⟩ = some (.int .i64 xq)) W5 := ⟨z0, x0, x1, x2, x3, x4⟩
                clear hW5 hbW hr5 ho5 hbx5 hf5 z0 x0 x1 x2 x3 x4 ho hbx hf hm hr hba hbb hLc hBs hM hge hnm hfold hne hmax hlen63 hn hX3 RU fa fb fpos fp0 fq0 flen fma fmb s7a s7b hone hxm hlen hrest
                refine takeL (i := 0) rfl (by kernel_rfl) (by kernel_rfl) (by kernel_rfl) (by kernel_rfl) (by kernel_rfl) (by kernel_rfl) (by kernel_rfl) (fun _ _ _ h => h) hS (.inl ⟨by rfl, by intro _ hSw; (try dsimp only at hSw); go_simp; with_reducible rfl⟩) ?_
                try simp only [Act.put, List.setIfInBounds_toArray, List.set_cons_zero, List.set_cons_succ]
                refine takeW (i := 1) rfl (by kernel_rfl) (by kernel_rfl) (by kernel_rfl) (by kernel_rfl) (fun _ _ _ h => h) (.inr hS) (.inl ⟨by rfl, by intro _ _; go_simp; with_reducible rfl⟩) ?_
                try simp only [Act.put, List.setIfInBounds_toArray, List.set_cons_zero, List.set_cons_succ]
                refine takeL (i := 2) rfl (by kernel_rfl) (by kernel_rfl) (by kernel_rfl) (by kernel_rfl) (by kernel_rfl) (by kernel_rfl) (by kernel_rfl) (fun _ _ _ h => h) hS (.inl ⟨by rfl, by intro _ hSw; (try dsimp only at hSw); go_simp; with_reducible rfl⟩) ?_
                try simp only [Act.put, List.setIfInBounds_toArray, List.set_cons_zero, List.set_cons_succ]
                refine takeW (i := 3) rfl (by kernel_rfl) (by kernel_rfl) (by kernel_rfl) (by kernel_rfl) (fun _ _ _ h => h) (.inr hS) (.inl ⟨by rfl, by intro _ _; go_simp; with_reducible rfl⟩) ?_
                try simp only [Act.put, List.setIfInBounds_toArray, List.set_cons_zero, List.set_cons_succ]
                refine takeL (i := 4) rfl (by kernel_rfl) (by kernel_rfl) (by kernel_rfl) (by kernel_rfl) (by kernel_rfl) (by kernel_rfl) (by kernel_rfl) (fun _ _ _ h => h) hS (.inl ⟨by rfl, by intro _ hSw; (try dsimp only at hSw); go_simp; with_reducible rfl⟩) ?_
                try simp only [Act.put, List.setIfInBounds_toArray, List.set_cons_zero, List.set_cons_succ]
                refine takeW (i := 5) rfl (by kernel_rfl) (by kernel_rfl) (by kernel_rfl) (by kernel_rfl) (fun _ _ _ h => h) (.inr hS) (.inl ⟨by rfl, by intro _ _; go_simp; with_reducible rfl⟩) ?_
                try simp only [Act.put, List.setIfInBounds_toArray, List.set_cons_zero, List.set_cons_succ]
                refine takeL (i := 6) rfl (by kernel_rfl) (by kernel_rfl) (by kernel_rfl) (by kernel_rfl) (by kernel_rfl) (by kernel_rfl) (by kernel_rfl) (fun _ _ _ h => h) hS (.inl ⟨by rfl, by intro _ hSw; (try dsimp only at hSw); go_simp; with_reducible rfl⟩) ?_
                try simp only [Act.put, List.setIfInBounds_toArray, List.set_cons_zero, List.set_cons_succ]
                refine takeW (i := 7) rfl (by kernel_rfl) (by kernel_rfl) (by kernel_rfl) (by kernel_rfl) (fun _ _ _ h => h) (.inr hS) (.inl ⟨by rfl, by intro _ _; go_simp; with_reducible rfl⟩) ?_
                try simp only [Act.put, List.setIfInBounds_toArray, List.set_cons_zero, List.set_cons_succ]
                refine takeW (i := 8) rfl (by kernel_rfl) (by kernel_rfl) (by kernel_rfl) (by kernel_rfl) (fun _ _ _ h => h) (.inr hS) (.inl ⟨by rfl, by intro _ _; go_simp; with_reducible rfl⟩) ?_
                try simp only [Act.put, List.setIfInBounds_toArray, List.set_cons_zero, List.set_cons_succ]
                refine takeL (i := 9) rfl (by kernel_rfl) (by kernel_rfl) (by kernel_rfl) (by kernel_rfl) (by kernel_rfl) (by kernel_rfl) (by kernel_rfl) (fun _ _ _ h => h) hS (.inl ⟨by rfl, by intro _ hSw; (try dsimp only at hSw); go_simp; with_reducible rfl⟩) ?_
                try simp only [Act.put, List.setIfInBounds_toArray, List.set_cons_zero, List.set_cons_succ]
                refine takeW (i := 10) rfl (by kernel_rfl) (by kernel_rfl) (by kernel_rfl) (by kernel_rfl) (fun _ _ _ h => h) (.inr hS) (.inl ⟨by rfl, by intro _ _; go_simp; with_reducible rfl⟩) ?_
                try simp only [Act.put, List.setIfInBounds_toArray, List.set_cons_zero, List.set_cons_succ]
                refine takeL (i := 11) rfl (by kernel_rfl) (by kernel_rfl) (by kernel_rfl) (by kernel_rfl) (by kernel_rfl) (by kernel_rfl) (by kernel_rfl) (fun _ _ _ h => h) hS (.inl ⟨by rfl, by intro _ hSw; (try dsimp only at hSw); go_simp; with_reducible rfl⟩) ?_
                try simp only [Act.put, List.setIfInBounds_toArray, List.set_cons_zero, List.set_cons_succ]
                refine takeW (i := 12) rfl (by kernel_rfl) (by kernel_rfl) (by kernel_rfl) (by kernel_rfl) (fun _ _ _ h => h) (.inr hS) (.inl ⟨by rfl, by intro _ _; go_simp; with_reducible rfl⟩) ?_
                try simp only [Act.put, List.setIfInBounds_toArray, List.set_cons_zero, List.set_cons_succ]
                refine takeW (i := 13) rfl (by kernel_rfl) (by kernel_rfl) (by kernel_rfl) (by kernel_rfl) (fun _ _ _ h => h) (.inr hS) (.inl ⟨by rfl, by intro _ _; go_simp; with_reducible rfl⟩) ?_
                try simp only [Act.put, List.setIfInBounds_toArray, List.set_cons_zero, List.set_cons_succ]
                refine takeL (i := 14) rfl (by kernel_rfl) (by kernel_rfl) (by kernel_rfl) (by kernel_rfl) (by kernel_rfl) (by kernel_rfl) (by kernel_rfl) (fun _ _ _ h => h) hS (.inl ⟨by rfl, by intro _ hSw; (try dsimp only at hSw); go_simp; with_reducible rfl⟩) ?_
                try simp only [Act.put, List.setIfInBounds_toArray, List.set_cons_zero, List.set_cons_succ]
                refine takeW (i := 15) rfl (by kernel_rfl) (by kernel_rfl) (by kernel_rfl) (by kernel_rfl) (fun _ _ _ h => h) (.inr hS) (.inl ⟨by rfl, by intro _ _; go_simp; with_reducible rfl⟩) ?_
                try simp only [Act.put, List.setIfInBounds_toArray, List.set_cons_zero, List.set_cons_succ]
                refine takeW (i := 16) rfl (by kernel_rfl) (by kernel_rfl) (by kernel_rfl) (by kernel_rfl) (fun _ _ _ h => h) (.inr hS) (.inl ⟨by rfl, by intro _ _; go_simp; with_reducible rfl⟩) ?_
                try simp only [Act.put, List.setIfInBounds_toArray, List.set_cons_zero, List.set_cons_succ]
                refine takeW (i := 17) rfl (by kernel_rfl) (by kernel_rfl) (by kernel_rfl) (by kernel_rfl) (fun _ _ _ h => h) (.inr hS) (.inl ⟨by rfl, by intro _ _; go_simp; with_reducible rfl⟩) ?_
                try simp only [Act.put, List.setIfInBounds_toArray, List.set_cons_zero, List.set_cons_succ]
                refine takeL (i := 18) rfl (by kernel_rfl) (by kernel_rfl) (by kernel_rfl) (by kernel_rfl) (by kernel_rfl) (by kernel_rfl) (by kernel_rfl) (fun _ _ _ h => h) hS (.inl ⟨by rfl, by intro _ hSw; (try dsimp only at hSw); go_simp; with_reducible rfl⟩) ?_
                try simp only [Act.put, List.setIfInBounds_toArray, List.set_cons_zero, List.set_cons_succ]
                refine readyG (rs := [19]) (by kernel_rfl) (by simp) (consG rfl (fun K hK => ?_) nilG)
                refine step_cat HU.out _ rfl _ _ _ rfl xpa n la HB.out.2.2.2.2.1 rfl _ lb rfl (Src.ofBS HU.out.un HB.out.2.2.2.2.2.1) HB.out.2.2.2.2.2.2.2.2.2.2.2.2.1 ?_
                intro p6 c6 W6 hbs6 hb6
                have hr6 := RowAt.below HB.out.2.2.2.2.2.2.2.2.2.2.2.2.2.2.2.2 hb6
                have ho6 := HB.out.1.below hb6
                have hS6 : (fun V : World => V.cell? ⟨W10.heap.size + 1, 0, none⟩ = some (.slice u1 Lq2.length u2) ∧ V.cell? ⟨Px, 0, none⟩ = some (.int .u64 (xat : Int)) ∧ V.cell? ⟨Px, 1, none⟩ = some (.slice xpa n xca) ∧ V.cell? ⟨Px, 2, none⟩ = some (.slice xpb lb.length xcb) ∧ V.cell? ⟨Px, 3, none⟩ = some (.int .i64 xp) ∧ V.cell? ⟨Px, 4, none⟩ = some (.int .i64 xq)) W6 := ⟨ho6.row.cell 0, hr6.cell 0, hr6.cell 1, hr6.cell 2, hr6.cell 3, hr6.cell 4⟩
                refine hK.out _ _ (.inr hS6) ?_
                clear hK K hS hS6
                have hsz5 := HB.out.2.2.2.2.2.2.2.2.2.2.2.2.2.2.2.1.size
                obtain ⟨lab, hlabd⟩ : ∃ z, z = la ++ lb := ⟨_, rfl⟩
                obtain ⟨nm, hnmd⟩ : ∃ z, z = lab.length := ⟨_, rfl⟩
                have hlab : n + lb.length = nm := by rw [hnmd, hlabd, List.length_append, HB.out.2.2.2.2.2.2.2.2.2.2.2.2.2.1]
                have hne' : lab ≠ [] := by rw [hlabd]; exact HB.out.2.2.2.2.2.2.2.2.2.2.1
                have hmax' : xat + lab.length ≤ MAXA := by rw [hlabd]; exact HB.out.2.2.2.2.2.2.2.2.2.2.2.1
                rw [hlab] at hbs6 ⊢
                rw [← hlabd, hnmd] at hbs6
                have hput := lay_put (fun k => M k ∨ k = Px) (W10.heap.size + 2) (W10.heap.size + 1) W6 _ Lq2 ho6 (by have := hb6.size; have := HB.out.2.2.2.2.2.2.2.1; omega) (fun k hk => by have := hb6.size; have := HB.out.2.2.2.2.2.2.2.2.1 k hk; omega) HB.out.2.2.2.2.2.2.1 xat (xp + xq) p6 c6 lab hbs6 hne' hmax'
                rw [← hnmd] at hput
                have HLB := hid hlabd
                clear hlabd hnmd hlab hne' hmax'
                have HP := hid hput
                have hbx6 := HB.out.2.1.its (Its.of_below _ hb6)
                have hf6 := HB.out.2.2.1.below hb6
                have hs6 : StepV (fun k => M k ∨ k = Px) W W6 := (StepV.below HB.out.2.2.2.2.2.2.2.2.2.2.2.2.2.2.2.1).trans (StepV.below hb6)
                have H6b := hid (And.intro hbx6 (And.intro hf6 hs6))
                clear hput hbx6 hf6 hs6 hbs6 hb6 hr6 ho6 hsz5
                try simp only [Act.put, List.setIfInBounds_toArray, List.set_cons_zero, List.set_cons_succ]
                refine readyG (rs := [20]) (by kernel_rfl) (by simp) (consG rfl (fun K hK => ?_) nilG)
                go_simp
                refine HP.out.mono ?_
                rintro e W7 ⟨v6, L6, rfl, hm6, ho7, hs7, hk7, hr7, v3, v4, rfl⟩
                have r7 : W7.cell? ⟨W10.heap.size + 1, 0, none⟩ = some (.slice u1 Lq2.length u2) := hr7.cell 0
                have f7 := hr7.own 0
                have hA : AccI outS (fun _ => false) w (W10.heap.size + 2) (W10.heap.size + 1) (w.heap.size + 1) (w.heap.size + 1 + 1) (pre ++ [⟨xat, xpa, xca, la, xpb, xcb, lb, xp, xq⟩]) (fun k => M k ∨ k = Px) (W7.setCell ⟨W10.heap.size + 1, 0, none⟩ (.slice v3 L6.length v4)) := by
                  have hX := HB.out.2.2.2.2.2.2.2.2.2.2.2.2.2.2.1
                  have l4 := H6b.out.1.r4.lt
                  have l5 := H6b.out.1.r5.lt
                  refine ⟨_, L6, ho7, ⟨(hk7 _ (by omega) (by omega) l4).trans H6b.out.1.r4, (hk7 _ (by omega) (by omega) l5).trans H6b.out.1.r5, H6b.out.1.x4, H6b.out.1.x5⟩, H6b.out.2.1.kept hs7.kept, ?_, fun _ _ => rfl⟩
                  rw [← HB.out.2.2.2.2.2.2.2.2.2.1, hm6, HB.out.2.2.2.1, HLB.out]
                  rfl
                have HA := hid (And.intro (H6b.out.2.2.trans hs7) hA)
                clear hm6 ho7 hs7 hk7 hr7 hA
                dsimp only
                refine hK.out _ _ (.inl (by kernel_rfl)) ?_
                clear hK K
                try simp only [Act.put, List.setIfInBounds_toArray, List.set_cons_zero, List.set_cons_succ]
                refine readyG (rs := [21]) (by kernel_rfl) (by simp) (consG rfl (fun K hK => ?_) nilG)
                go_simp
                refine hK.out _ _ (.inl (by kernel_rfl)) ?_
                clear hK K r7 f7
                refine doneG (by kernel_rfl) ?_ _
                gi_wp2
                exact ⟨_, fun k h => .inl h, HA.out⟩
              case done4 =>
                rintro D4 xs M W15 hD4 hx hsm ⟨v, Lo, ho, hbx, hf, hm, -⟩ hd4
                have hX3 := H5.out.2.2.2.2.1
                have hX10 : w.heap.size + 1 + 1 < W10.heap.size := H13.out.2.2.2.2.2.2.2.2.2.2.2.1
                have hD3l : w.heap.size + 1 + 1 < D3 := H13.out.2.2.2.2.2.2.2.2.2.2.2.2
                have hD1l := H6.out.2.2.2.2.2.2.2.2.2.2
                have hD2l := H9.out.2.2.2.2.2.2.2.1
                have b1 := (Array.getElem?_eq_some_iff.1 H14.out.2.2.2.2.1).1
                have b2 := (Array.getElem?_eq_some_iff.1 H14.out.2.2.2.2.2.1).1
                have b3 := (Array.getElem?_eq_some_iff.1 H14.out.2.2.2.2.2.2.1).1
                have l1 := HX.out.1
                have l2 := HX.out.2.1
                have hs12 := HX.out.2.2
                have hs14 := H14.out.2.2.2.2.2.2.2.1
                have hn13 := H13.out.2.2.2.2.2.1
                have hn12 := H9.out.2.2.2.2.2.2.2.2.1
                have hbel : Below w.heap.size w W15 := ⟨hf.os, hf.tape, hf.output, hf.size, fun k hk => (hsm.blk k ⟨by omega, fun h => by rcases h with h | h | h <;> omega⟩).trans (H14.out.2.2.1.bel.block k hk)⟩
                have hd1 : W15.heap[D1]? = some (.deferred (some [])) := (hsm.blk D1 ⟨b1, fun h => by rcases h with h | h | h <;> omega⟩).trans H14.out.2.2.2.2.1
                have hd2 : W15.heap[D2]? = some (.deferred (some [])) := (hsm.blk D2 ⟨b2, fun h => by rcases h with h | h | h <;> omega⟩).trans H14.out.2.2.2.2.2.1
                have hd3 : W15.heap[D3]? = some (.deferred (some [])) := (hsm.blk D3 ⟨b3, fun h => by rcases h with h | h | h <;> first | omega | (rw [h] at b3; have h4 := H14.out.2.2.2.1; unfold RowAt at h4; have h5 := H14.out.2.2.2.2.2.2.1; rw [h, h4] at h5; cases h5)⟩).trans H14.out.2.2.2.2.2.2.1
                rw [hx, out_is (srt_may H13.out.2.2.2.2.2.2.2.2.1) (srt_may HMP.out.1) H14.out.2.1 H14.out.2.2.2.2.2.2.2.2, H13.out.2.2.2.2.2.2.2.1, cells_pieces] at hm
                have hR : R = (0, Lo.map PzV.m) := by
                  have e0 : layOf (L.map PzV.m) (rzV Ll Lg Lp) = (0, mergeC (patC (minusC (cellsZ (L.map PzV.m)) (cellsZ (Ll.map PzV.m))) (cellsZ ((Lp.map PaV.m).map newM))) (cellsZ (Lg.map PzV.m))) := layC_ok H6.out.2.2.2.2.2.2.2.1 H9.out.2.2.2.2.2.2.1 H9.out.2.2.2.2.2.2.2.2.2.symm
                  rw [HRR.out, e0, hm]
                subst hR
                obtain ⟨o3, o4, rfl⟩ := ho.form
                have z12 : W15.cell? ⟨W10.heap.size + 1, 0, none⟩ = some (.slice o3 Lo.length o4) := ho.row.cell 0
                have c4 : W15.cell? ⟨w.heap.size + 1, 0, none⟩ = some (.slice none 0 0) := hbx.r4.cell 0
                have f4 := hbx.r4.own 0
                have hF := fin_store ho hbx hbel (Nat.le_succ _) (by omega) (by omega)
                have c5 : (W15.setCell ⟨w.heap.size + 1, 0, none⟩ (.slice o3 Lo.length o4)).cell? ⟨w.heap.size + 1 + 1, 0, none⟩ = some (.int .i64 0) := hF.r5.cell 0
                have f5 := hF.r5.own 0
                have s5 : (W15.setCell ⟨w.heap.size + 1, 0, none⟩ (.slice o3 Lo.length o4)).setCell ⟨w.heap.size + 1 + 1, 0, none⟩ (.int .i64 0) = W15.setCell ⟨w.heap.size + 1, 0, none⟩ (.slice o3 Lo.length o4) := setCell_selfB (i := 0) hF.r5 rfl
                obtain ⟨W16, hW16⟩ : ∃ V, V = W15.setCell ⟨w.heap.size + 1, 0, none⟩ (.slice o3 Lo.length o4) := ⟨_, rfl⟩
                have g1 : W16.heap[D1]? = some (.deferred (some [])) := by rw [hW16]; exact (heap_setCell_other _ _ _ _ (show D1 ≠ w.heap.size + 1 by omega)).trans hd1
                have g2 : W16.heap[D2]? = some (.deferred (some [])) := by rw [hW16]; exact (heap_setCell_other _ _ _ _ (show D2 ≠ w.heap.size + 1 by omega)).trans hd2
                have g3 : W16.heap[D3]? = some (.deferred (some [])) := by rw [hW16]; exact (heap_setCell_other _ _ _ _ (show D3 ≠ w.heap.size + 1 by omega)).trans hd3
                have g4 : W16.heap[D4]? = some (.deferred (some [])) := by rw [hW16]; exact (heap_setCell_other _ _ _ _ (show D4 ≠ w.heap.size + 1 by omega)).trans hd4
                rw [← hW16] at hF
                have hF4 := hF.turn (.deferred none) g4 rfl (by omega)
                have g3' : (W16.putObj D4 (.deferred none)).heap[D3]? = some (.deferred (some [])) := (World.putObj_heap_other (by omega)).trans g3
                have hF3 := hF4.turn (.deferred none) g3' rfl (by omega)
                have g2' : ((W16.putObj D4 (.deferred none)).putObj D3 (.deferred none)).heap[D2]? = some (.deferred (some [])) := (World.putObj_heap_other (by omega)).trans ((World.putObj_heap_other (by omega)).trans g2)
                have hF2 := hF3.turn (.deferred none) g2' rfl (by omega)
                have g1' : (((W16.putObj D4 (.deferred none)).putObj D3 (.deferred none)).putObj D2 (.deferred none)).heap[D1]? = some (.deferred (some [])) := (World.putObj_heap_other (by omega)).trans ((World.putObj_heap_other (by omega)).trans ((World.putObj_heap_other (by omega)).trans g1))
                have hF1 := hF2.turn (.deferred none) g1' rfl (by omega)
                have e4 : World.cell? _ ⟨w.heap.size + 1, 0, none⟩ = some (.slice o3 Lo.length o4) := hF1.r4.cell 0
                have e5 : World.cell? _ ⟨w.heap.size + 1 + 1, 0, none⟩ = some (.int .i64 0) := hF1.r5.cell 0
                have HE := hid hF1.new
                have Hd := hid (And.intro g4 (And.intro g3' (And.intro g2' g1')))
                have HW16 := hid hW16.symm
                clear hX3 hX10 hD3l hD1l hD2l b1 b2 b3 l1 l2 hs12 hs14 hn13 hn12 hbel hd1 hd2 hd3 hd4 hm hF hW16 g1 g2 g3 g4 hF4 g3' hF3 g2' hF2 g1' hF1 ho hbx hf hx hsm
                gi_wp2
                rw [HW16.out]
                refine ⟨by simp, .inl ⟨_, _, rfl, run_takeDeferred Hd.out.1, ?_⟩⟩
                refine ⟨by simp, .inl ⟨_, _, rfl, run_takeDeferred Hd.out.2.1, ?_⟩⟩
                refine ⟨by simp, .inl ⟨_, _, rfl, run_takeDeferred Hd.out.2.2.1, ?_⟩⟩
                refine ⟨by simp, .inl ⟨_, _, rfl, run_takeDeferred Hd.out.2.2.2, ?_⟩⟩
                refine ⟨.tuple #[.slice o3 Lo.length o4, .int .i64 0], by simp [results, Tryz.results6, go_sem, e4, e5], ?_⟩
                exact ⟨_, rfl, HE.out⟩
end Go.Proofs.YtjfkgdfmkofbmaaGreatDoor
