/- The document's comparison of rows: where all are the same. -/
import Derived.Test.YtjfkgdfmkofbmaaGreatDoorZBrA
import Derived.Test.YtjfkgdfmkofbmaaGreatDoorZBpR
import Derived.Test.YtjfkgdfmkofbmaaGreatDoorZRnd
namespace Go.Proofs.YtjfkgdfmkofbmaaGreatDoor
set_option linter.unusedSimpArgs false
set_option linter.unusedVariables false
open Go.RowKit

/-- Three cells of a block are set. -/
def set3 (W : World) (P : Nat) (a b c : Value) : World := ((W.setCell ⟨P, 0, none⟩ a).setCell ⟨P, 1, none⟩ b).setCell ⟨P, 2, none⟩ c
theorem set3_keep (W : World) {P k : Nat} (hk : k ≠ P) (a b c : Value) : (set3 W P a b c).heap[k]? = W.heap[k]? := by
  unfold set3
  rw [heap_setCell_other _ _ _ _ hk, heap_setCell_other _ _ _ _ hk, heap_setCell_other _ _ _ _ hk]
theorem set3_row {W : World} {P : Nat} {t : TypeId} {x y z : Value} (h : RowAt W P t #[x, y, z]) (a b c : Value) : RowAt (set3 W P a b c) P t #[a, b, c] := ((h.same (i := 0) a).same (i := 1) b).same (i := 2) c
/-- Structs of three cells of the call's own, read. -/
theorem own3_reads {α : Type} {cs : α → List Value} (hc : ∀ x, (cs x).length = 3) {W : World} {B : Nat} {v : Value} {L : List α} {e : TypeId} (h : W.ownsRow B e 3 v L.length (L.flatMap cs)) : RowsAt cs 3 W v L := by
  have hh := h
  obtain ⟨hlen, ⟨rfl, h0⟩ | ⟨g, cap, cur, rfl, -, hb, h1, h2, h3, h4⟩⟩ := h
  · rw [List.length_eq_zero_iff.1 h0]
    exact RowsAt.nil W
  · refine ⟨some ⟨g, 0, none⟩, cap, rfl, h1, h2, fun _ => ⟨g, 0, rfl, fun i x hx c u hu => ?_⟩⟩
    obtain ⟨g', cap', cur', e, hb', hu'⟩ := own3_rows hc hh hx
    cases e
    simp only [World.cell?, hb', Nat.zero_add]
    simpa using hu' c u hu
/-- Patches that are read. -/
structure PasAt (W : World) (v : Value) (L : List PaV) : Prop where
  rows : RowsAt PaV.cells 3 W v L
  b1 : ∀ x ∈ L, BS W x.s1 x.old
  b2 : ∀ x ∈ L, BS W x.s2 x.new
theorem PasAt.below {w w' : World} {v : Value} {L : List PaV} (h : PasAt w v L) (hb : Below w.heap.size w w') : PasAt w' v L := ⟨h.rows.below hb, fun x hx => (h.b1 x hx).below hb, fun x hx => (h.b2 x hx).below hb⟩
theorem PasAt.cell {w : World} {a : Option Addr} {n cap : Nat} {L : List PaV} (h : PasAt w (.slice a n cap) L) {i : Nat} {x : PaV} (hx : L[i]? = some x) :
    ∃ g off, a = some ⟨g, off, none⟩ ∧ w.cell? ⟨g, off + i * 3, none⟩ = some (.int .u64 (x.at_ : Int)) ∧ w.cell? ⟨g, off + i * 3 + 1, none⟩ = some x.s1 ∧ w.cell? ⟨g, off + i * 3 + 2, none⟩ = some x.s2 := by
  obtain ⟨g, off, rfl, hc⟩ := RowsAt.at h.rows hx
  exact ⟨g, off, rfl, by simpa using hc 0 _ rfl, hc 1 _ rfl, hc 2 _ rfl⟩
theorem OwnPa.reads {M : Nat → Prop} {W : World} {v : Value} {L : List PaV} (h : OwnPa M W v L) : PasAt W v L :=
  ⟨own3_reads paLen h.own, fun x hx => (h.e1 x hx).bs (by have := (h.ok x hx).2.2; unfold MAXA at this; omega), fun x hx => (h.e2 x hx).bs (by have := (h.ok x hx).2; have := this.1; have := (h.ok x hx).2.2; unfold MAXA at this; omega)⟩
theorem OwnPz.reads {M : Nat → Prop} {W : World} {v : Value} {L : List PzV} (h : OwnPz M W v L) : PzsAt W v L :=
  ⟨own3_reads pzLen h.own, fun x hx => (h.each x hx).bs (by have := (h.ok x hx).2; unfold MAXA at this; omega), fun x hx => by have := (h.ok x hx).2; unfold MAXA at this; omega⟩

set_option maxHeartbeats 2000000 in
set_option maxRecDepth 8000 in
theorem br_pieces (w : World) (va vb : Value) (A B : List PzV) (hA : PzsAt w va A) (hB : PzsAt w vb B) (hm : A.map PzV.m = B.map PzV.m) (hlen : A.length ≤ 1000000) :
    Calls Tryz.prog 51 #[va, vb] w fun e w' => e = .returned (.bool true) ∧ Below w.heap.size w w' := by
  obtain ⟨pa, ca, rfl⟩ := RowsAt.form hA.rows
  obtain ⟨pb, cb, rfl⟩ := RowsAt.form hB.rows
  have hl : A.length = B.length := by have := congrArg List.length hm; simpa using this
  obtain ⟨n, hn⟩ : ∃ n, n = A.length := ⟨_, rfl⟩
  have hnb : n = B.length := hn.trans hl
  rw [← hn] at hA hlen
  rw [← hnb] at hB
  rw [← hn, ← hnb]
  have hne : ((n : Int) != (n : Int)) = false := by simp
  have H := hid (And.intro hA (And.intro hB (And.intro hm (And.intro hn hnb))))
  clear hA hB hm hn hnb hl
  go_enter Tryz.func51, Tryz.ntmps51
  go_wp2_with fail
  go_loopw [5] (fun vi wr => ∃ k : Nat, k ≤ n ∧ vi = .int .i64 (k : Int) ∧ Below w.heap.size w wr) (fun vi _ => n - (intOf vi).toNat)
  case atStart => exact ⟨0, Nat.zero_le _, rfl, Below.refl _ _⟩
  case round =>
    obtain ⟨k, hk, rfl, hw⟩ := hrel
    by_cases hlt : k < n
    · obtain ⟨x, hx⟩ : ∃ x, A[k]? = some x := ⟨_, List.getElem?_eq_getElem (by rw [← H.out.2.2.2.1]; exact hlt)⟩
      obtain ⟨y, hy⟩ : ∃ y, B[k]? = some y := ⟨_, List.getElem?_eq_getElem (by rw [← H.out.2.2.2.2]; exact hlt)⟩
      have hxy : x.m = y.m := by
        have h1 : (A.map PzV.m)[k]? = some x.m := by rw [List.getElem?_map, hx]; rfl
        have h2 : (B.map PzV.m)[k]? = some y.m := by rw [List.getElem?_map, hy]; rfl
        rw [H.out.2.2.1, h2] at h1
        exact (Option.some.inj h1).symm
      have hAt := H.out.1.below hw
      have hBt := H.out.2.1.below hw
      obtain ⟨ga, oa, rfl, a0, a1, a2⟩ := hAt.cell hx
      obtain ⟨gb, ob, rfl, b0, b1, b2⟩ := hBt.cell hy
      have hbx := hAt.bytes x (List.mem_of_getElem? hx)
      have hby := hBt.bytes y (List.mem_of_getElem? hy)
      obtain ⟨xa, xp, xs, xc, xb⟩ := x
      obtain ⟨ya, yp, ys, yc, yb⟩ := y
      simp only [PzV.m, Pz.mk.injEq] at hxy
      obtain ⟨rfl, rfl, rfl⟩ := hxy
      dsimp only at a0 a1 a2 b0 b1 b2 hbx hby
      obtain ⟨m, hm⟩ : ∃ m, m = xb.length := ⟨_, rfl⟩
      rw [← hm] at a2 b2 hbx hby
      have u1 := fun q => run_toString (P := Tryz.prog) (dst := 9) (w := wr.drewN q) _ _ _ un_bsQ un_u8Q un_strQ (hbx.heap rfl)
      have u2 := fun q => run_toString (P := Tryz.prog) (dst := 9) (w := wr.drewN q) _ _ _ un_bsQ un_u8Q un_strQ (hby.heap rfl)
      have i1 : (0 : Int) ≤ (k : Int) := by omega
      have i2 : (k : Int) < (n : Int) := by omega
      have hwk : IntKind.i64.wrap ((k : Int) + 1) = ((k + 1 : Nat) : Int) := (IntWalk.i64_in _ (by omega)).trans (by omega)
      have Hw := hid hw
      clear hx hy hAt hBt hbx hby hm hw hlt hk
      go_upto_region 6 with fail
      go_quiet (fail)
      go_wp2_with fail
      exact ⟨⟨k + 1, by omega, by go_num, drewN_belowB Hw.out _⟩, by simp [intOf]; omega⟩
    · have Hw := hid hw
      have hd : decide ((k : Int) < (n : Int)) = false := decide_eq_false (by omega)
      clear hw hk
      go_wp2_with fail
      go_ret
      exact ⟨rfl, Hw.out⟩

set_option maxHeartbeats 4000000 in
set_option maxRecDepth 8000 in
theorem br_rows (w : World) (l1 g1 q1 l2 g2 q2 : Value) (A1 G1 A2 G2 : List PzV) (P1 P2 : List PaV) (hl1 : PzsAt w l1 A1) (hg1 : PzsAt w g1 G1) (hp1 : PasAt w q1 P1) (hl2 : PzsAt w l2 A2) (hg2 : PzsAt w g2 G2) (hp2 : PasAt w q2 P2)
    (hm : rzV A1 G1 P1 = rzV A2 G2 P2) (hn1 : A1.length ≤ 1000000) (hn2 : G1.length ≤ 1000000) (hn3 : P1.length ≤ 1000000) :
    Calls Tryz.prog 30 #[.agg #[l1, g1, q1], .agg #[l2, g2, q2]] w fun e w' => e = .returned (.bool true) ∧ Below w.heap.size w w' := by
  obtain ⟨p1, c1, rfl⟩ := RowsAt.form hp1.rows
  obtain ⟨p2, c2, rfl⟩ := RowsAt.form hp2.rows
  unfold rzV at hm
  simp only [Rz.mk.injEq] at hm
  obtain ⟨m1, m2, m3⟩ := hm
  have hl : P1.length = P2.length := by have := congrArg List.length m3; simpa using this
  have hcl := hid (fun W (hb : Below w.heap.size w W) => br_pieces W l1 l2 A1 A2 (hl1.below hb) (hl2.below hb) m1 hn1)
  have hcg := hid (fun W (hb : Below w.heap.size w W) => br_pieces W g1 g2 G1 G2 (hg1.below hb) (hg2.below hb) m2 hn2)
  obtain ⟨e1, f1, rfl⟩ := RowsAt.form hl1.rows
  obtain ⟨e2, f2, rfl⟩ := RowsAt.form hl2.rows
  obtain ⟨e3, f3, rfl⟩ := RowsAt.form hg1.rows
  obtain ⟨e4, f4, rfl⟩ := RowsAt.form hg2.rows
  obtain ⟨n, hn⟩ : ∃ n, n = P1.length := ⟨_, rfl⟩
  have hnb : n = P2.length := hn.trans hl
  rw [← hn] at hp1 hn3 ⊢
  rw [← hnb] at hp2 ⊢
  have hne : ((n : Int) != (n : Int)) = false := by simp
  obtain ⟨W1, hW1⟩ : ∃ W1, W1 = (w.alloc (.cells #[.slice e1 A1.length f1, .slice e3 G1.length f3, .slice p1 n c1] 27)).alloc (.cells #[.slice e2 A2.length f2, .slice e4 G2.length f4, .slice p2 n c2] 27) := ⟨_, rfl⟩
  have hb1 : Below w.heap.size w W1 := by rw [hW1]; exact ((Below.refl _ _).alloc (Nat.le_refl _) _).alloc (by simp) _
  have r1 : RowAt W1 w.heap.size 27 #[.slice e1 A1.length f1, .slice e3 G1.length f3, .slice p1 n c1] := by rw [hW1]; exact (Below.heap_alloc _ _ _ (by simp)).trans (heap_alloc_new w _)
  have r2 : RowAt W1 (w.heap.size + 1) 27 #[.slice e2 A2.length f2, .slice e4 G2.length f4, .slice p2 n c2] := by
    rw [hW1]; have := heap_alloc_new (w.alloc (.cells #[.slice e1 A1.length f1, .slice e3 G1.length f3, .slice p1 n c1] 27)) (.cells #[.slice e2 A2.length f2, .slice e4 G2.length f4, .slice p2 n c2] 27); rwa [World.size_alloc] at this
  have a0 : W1.cell? ⟨w.heap.size, 0, none⟩ = some (.slice e1 A1.length f1) := r1.cell 0
  have a1 : W1.cell? ⟨w.heap.size + 1, 0, none⟩ = some (.slice e2 A2.length f2) := r2.cell 0
  have HW1 := hid hW1.symm
  have H := hid (And.intro hp1 (And.intro hp2 (And.intro m3 (And.intro hn (And.intro hnb (And.intro hb1 (And.intro r1 (And.intro r2 hn3))))))))
  clear hp1 hp2 m3 hn hnb hl1 hl2 hg1 hg2 m1 m2 hn1 hn2 hn3 hl hb1 r1 r2 hW1
  go_enter Tryz.func30, Tryz.ntmps30
  go_upto_region 1 with fail
  rw [HW1.out]
  go_wp2_with fail
  refine (hcl.out _ H.out.2.2.2.2.2.1).mono ?_
  rintro e w2 ⟨rfl, hb2⟩
  have hr1 := RowAt.below H.out.2.2.2.2.2.2.1 hb2
  have hr2 := RowAt.below H.out.2.2.2.2.2.2.2.1 hb2
  have hbw := H.out.2.2.2.2.2.1.trans (hb2.mono H.out.2.2.2.2.2.1.size)
  have b0 : w2.cell? ⟨w.heap.size, 1, none⟩ = some (.slice e3 G1.length f3) := hr1.cell 1
  have b1 : w2.cell? ⟨w.heap.size + 1, 1, none⟩ = some (.slice e4 G2.length f4) := hr2.cell 1
  have H2 := hid (And.intro hbw (And.intro hr1 hr2))
  clear hbw hr1 hr2 hb2 a0 a1
  go_wp2_with fail
  refine (hcg.out _ H2.out.1).mono ?_
  rintro e w3 ⟨rfl, hb3⟩
  have hr1 := RowAt.below H2.out.2.1 hb3
  have hr2 := RowAt.below H2.out.2.2 hb3
  have hbw := H2.out.1.trans (hb3.mono H2.out.1.size)
  have b0 : w3.cell? ⟨w.heap.size, 2, none⟩ = some (.slice p1 n c1) := hr1.cell 2
  have b1 : w3.cell? ⟨w.heap.size + 1, 2, none⟩ = some (.slice p2 n c2) := hr2.cell 2
  have H3 := hid (And.intro hbw (And.intro hr1 hr2))
  clear hbw hr1 hr2 hb3
  go_wp2_with fail
  go_loopw [5] (fun vi wr => ∃ k : Nat, k ≤ n ∧ vi = .int .i64 (k : Int) ∧ Below w3.heap.size w3 wr) (fun vi _ => n - (intOf vi).toNat)
  case atStart => exact ⟨0, Nat.zero_le _, rfl, Below.refl _ _⟩
  case round =>
    obtain ⟨k, hk, rfl, hw⟩ := hrel
    have hbw := H3.out.1.trans (hw.mono H3.out.1.size)
    have hr1 := RowAt.below H3.out.2.1 hw
    have hr2 := RowAt.below H3.out.2.2 hw
    have b0 : wr.cell? ⟨w.heap.size, 2, none⟩ = some (.slice p1 n c1) := hr1.cell 2
    have b1 : wr.cell? ⟨w.heap.size + 1, 2, none⟩ = some (.slice p2 n c2) := hr2.cell 2
    by_cases hlt : k < n
    · obtain ⟨x, hx⟩ : ∃ x, P1[k]? = some x := ⟨_, List.getElem?_eq_getElem (by rw [← H.out.2.2.2.1]; exact hlt)⟩
      obtain ⟨y, hy⟩ : ∃ y, P2[k]? = some y := ⟨_, List.getElem?_eq_getElem (by rw [← H.out.2.2.2.2.1]; exact hlt)⟩
      have hxy : x.m = y.m := by
        have h1 : (P1.map PaV.m)[k]? = some x.m := by rw [List.getElem?_map, hx]; rfl
        have h2 : (P2.map PaV.m)[k]? = some y.m := by rw [List.getElem?_map, hy]; rfl
        rw [H.out.2.2.1, h2] at h1
        exact (Option.some.inj h1).symm
      have hAt := H.out.1.below hbw
      have hBt := H.out.2.1.below hbw
      obtain ⟨ga, oa, rfl, x0, x1, x2⟩ := hAt.cell hx
      obtain ⟨gb, ob, rfl, y0, y1, y2⟩ := hBt.cell hy
      have hbx1 := hAt.b1 x (List.mem_of_getElem? hx)
      have hbx2 := hAt.b2 x (List.mem_of_getElem? hx)
      have hby1 := hBt.b1 y (List.mem_of_getElem? hy)
      have hby2 := hBt.b2 y (List.mem_of_getElem? hy)
      obtain ⟨xa, xp, xc, xo, xq, xd, xn⟩ := x
      obtain ⟨ya, yp, yc, yo, yq, yd, yn⟩ := y
      simp only [PaV.m, Gz.mk.injEq] at hxy
      obtain ⟨rfl, rfl, rfl⟩ := hxy
      obtain ⟨mo, hmo⟩ : ∃ m, m = xo.length := ⟨_, rfl⟩
      obtain ⟨mn, hmn⟩ : ∃ m, m = xn.length := ⟨_, rfl⟩
      simp only [PaV.s1, PaV.s2] at x0 x1 x2 y0 y1 y2 hbx1 hbx2 hby1 hby2
      rw [← hmo] at x1 y1 hbx1 hby1
      rw [← hmn] at x2 y2 hbx2 hby2
      have i1 : (0 : Int) ≤ (k : Int) := by omega
      have i2 : (k : Int) < (n : Int) := by omega
      have hwk : IntKind.i64.wrap ((k : Int) + 1) = ((k + 1 : Nat) : Int) := (IntWalk.i64_in _ (by have := H.out.2.2.2.2.2.2.2.2; omega)).trans (by omega)
      have hltz : decide ((k : Int) < (n : Int)) = true := by rw [decide_eq_true_eq]; omega
      have HB := hid (And.intro hw (And.intro hbx1 (And.intro hbx2 (And.intro hby1 (And.intro hby2 hlt)))))
      clear hx hy hAt hBt hbx1 hbx2 hby1 hby2 hmo hmn hw hbw hr1 hr2
      go_upto_region 6 with fail
      refine regionG (fun W => W.cell? ⟨w.heap.size, 2, none⟩ = some (.slice (some ⟨ga, oa, none⟩) n c1) ∧ W.cell? ⟨w.heap.size + 1, 2, none⟩ = some (.slice (some ⟨gb, ob, none⟩) n c2) ∧ (W.cell? ⟨ga, oa + k * 3, none⟩ = some (.int .u64 (xa : Int)) ∧ W.cell? ⟨ga, oa + k * 3 + 1, none⟩ = some (.slice xp mo xc) ∧ W.cell? ⟨ga, oa + k * 3 + 2, none⟩ = some (.slice xq mn xd)) ∧
        (W.cell? ⟨gb, ob + k * 3, none⟩ = some (.int .u64 (xa : Int)) ∧ W.cell? ⟨gb, ob + k * 3 + 1, none⟩ = some (.slice yp mo yc) ∧ W.cell? ⟨gb, ob + k * 3 + 2, none⟩ = some (.slice yq mn yd))) [13] (by kernel_rfl) ?_
      have hS : (fun W : World => W.cell? ⟨w.heap.size, 2, none⟩ = some (.slice (some ⟨ga, oa, none⟩) n c1) ∧ W.cell? ⟨w.heap.size + 1, 2, none⟩ = some (.slice (some ⟨gb, ob, none⟩) n c2) ∧ (W.cell? ⟨ga, oa + k * 3, none⟩ = some (.int .u64 (xa : Int)) ∧ W.cell? ⟨ga, oa + k * 3 + 1, none⟩ = some (.slice xp mo xc) ∧ W.cell? ⟨ga, oa + k * 3 + 2, none⟩ = some (.slice xq mn xd)) ∧
        (W.cell? ⟨gb, ob + k * 3, none⟩ = some (.int .u64 (xa : Int)) ∧ W.cell? ⟨gb, ob + k * 3 + 1, none⟩ = some (.slice yp mo yc) ∧ W.cell? ⟨gb, ob + k * 3 + 2, none⟩ = some (.slice yq mn yd))) wr.drew := ⟨b0, b1, ⟨x0, x1, x2⟩, ⟨y0, y1, y2⟩⟩
      have hSb := hid (fun (W' : World) (hk : ∀ k, k < wr.heap.size → W'.heap[k]? = wr.heap[k]?) =>
        have hc : ∀ {g o : Nat} {u : Value}, wr.cell? ⟨g, o, none⟩ = some u → W'.cell? ⟨g, o, none⟩ = some u := fun {g o u} h => (World.cell?_of_block (hk g (World.block_lt_of_cell? wr _ h))).trans h
        (⟨hc b0, hc b1, ⟨hc x0, hc x1, hc x2⟩, ⟨hc y0, hc y1, hc y2⟩⟩ : (fun W : World => W.cell? ⟨w.heap.size, 2, none⟩ = some (.slice (some ⟨ga, oa, none⟩) n c1) ∧ W.cell? ⟨w.heap.size + 1, 2, none⟩ = some (.slice (some ⟨gb, ob, none⟩) n c2) ∧ (W.cell? ⟨ga, oa + k * 3, none⟩ = some (.int .u64 (xa : Int)) ∧ W.cell? ⟨ga, oa + k * 3 + 1, none⟩ = some (.slice xp mo xc) ∧ W.cell? ⟨ga, oa + k * 3 + 2, none⟩ = some (.slice xq mn xd)) ∧
        (W.cell? ⟨gb, ob + k * 3, none⟩ = some (.int .u64 (xa : Int)) ∧ W.cell? ⟨gb, ob + k * 3 + 1, none⟩ = some (.slice yp mo yc) ∧ W.cell? ⟨gb, ob + k * 3 + 2, none⟩ = some (.slice yq mn yd))) W'))
      clear b0 b1 x0 x1 x2 y0 y1 y2
      refine takeW (i := 0) rfl (by kernel_rfl) (by kernel_rfl) (by kernel_rfl) (by kernel_rfl) (fun _ _ _ h => h) (.inr hS) (.inl ⟨by rfl, by intro _ _; go_simp; with_reducible rfl⟩) ?_
      try simp only [Act.put, List.setIfInBounds_toArray, List.set_cons_zero, List.set_cons_succ]
      refine takeL (i := 1) rfl (by kernel_rfl) (by kernel_rfl) (by kernel_rfl) (by kernel_rfl) (by kernel_rfl) (by kernel_rfl) (by kernel_rfl) (fun _ _ _ h => h) hS (.inl ⟨by rfl, by intro _ hSw; (try dsimp only at hSw); go_simp; with_reducible rfl⟩) ?_
      try simp only [Act.put, List.setIfInBounds_toArray, List.set_cons_zero, List.set_cons_succ]
      refine takeW (i := 2) rfl (by kernel_rfl) (by kernel_rfl) (by kernel_rfl) (by kernel_rfl) (fun _ _ _ h => h) (.inr hS) (.inl ⟨by rfl, by intro _ _; go_simp; with_reducible rfl⟩) ?_
      try simp only [Act.put, List.setIfInBounds_toArray, List.set_cons_zero, List.set_cons_succ]
      refine takeW (i := 3) rfl (by kernel_rfl) (by kernel_rfl) (by kernel_rfl) (by kernel_rfl) (fun _ _ _ h => h) (.inr hS) (.inl ⟨by rfl, by intro _ _; go_simp; with_reducible rfl⟩) ?_
      try simp only [Act.put, List.setIfInBounds_toArray, List.set_cons_zero, List.set_cons_succ]
      refine takeL (i := 4) rfl (by kernel_rfl) (by kernel_rfl) (by kernel_rfl) (by kernel_rfl) (by kernel_rfl) (by kernel_rfl) (by kernel_rfl) (fun _ _ _ h => h) hS (.inl ⟨by rfl, by intro _ hSw; (try dsimp only at hSw); go_simp; with_reducible rfl⟩) ?_
      try simp only [Act.put, List.setIfInBounds_toArray, List.set_cons_zero, List.set_cons_succ]
      refine takeW (i := 5) rfl (by kernel_rfl) (by kernel_rfl) (by kernel_rfl) (by kernel_rfl) (fun _ _ _ h => h) (.inr hS) (.inl ⟨by rfl, by intro _ _; go_simp; with_reducible rfl⟩) ?_
      try simp only [Act.put, List.setIfInBounds_toArray, List.set_cons_zero, List.set_cons_succ]
      refine takeL (i := 6) rfl (by kernel_rfl) (by kernel_rfl) (by kernel_rfl) (by kernel_rfl) (by kernel_rfl) (by kernel_rfl) (by kernel_rfl) (fun _ _ _ h => h) hS (.inl ⟨by rfl, by intro _ hSw; (try dsimp only at hSw); go_simp; with_reducible rfl⟩) ?_
      try simp only [Act.put, List.setIfInBounds_toArray, List.set_cons_zero, List.set_cons_succ]
      refine takeW (i := 7) rfl (by kernel_rfl) (by kernel_rfl) (by kernel_rfl) (by kernel_rfl) (fun _ _ _ h => h) (.inr hS) (.inl ⟨by rfl, by intro _ _; go_simp; with_reducible rfl⟩) ?_
      try simp only [Act.put, List.setIfInBounds_toArray, List.set_cons_zero, List.set_cons_succ]
      refine takeW (i := 8) rfl (by kernel_rfl) (by kernel_rfl) (by kernel_rfl) (by kernel_rfl) (fun _ _ _ h => h) (.inr hS) (.inl ⟨by rfl, by intro _ _; go_simp; with_reducible rfl⟩) ?_
      try simp only [Act.put, List.setIfInBounds_toArray, List.set_cons_zero, List.set_cons_succ]
      refine takeL (i := 9) rfl (by kernel_rfl) (by kernel_rfl) (by kernel_rfl) (by kernel_rfl) (by kernel_rfl) (by kernel_rfl) (by kernel_rfl) (fun _ _ _ h => h) hS (.inl ⟨by rfl, by intro _ hSw; (try dsimp only at hSw); go_simp; with_reducible rfl⟩) ?_
      try simp only [Act.put, List.setIfInBounds_toArray, List.set_cons_zero, List.set_cons_succ]
      refine readyG (rs := [10, 11]) (by kernel_rfl) (by simp) (consG rfl (fun K hK => ?_) (consG rfl (fun K hK => ?_) nilG))
      · go_simp
        refine hK.out _ _ (.inr (hSb.out _ (fun k hk => Below.heap_alloc _ _ _ hk))) ?_
        clear hK K
        refine readyG (rs := [11]) (by kernel_rfl) (by simp) (consG rfl (fun K hK => ?_) nilG)
        go_simp
        obtain ⟨W5, hW5⟩ : ∃ W5 : World, W5 = ((wr.alloc (.cells #[Value.int .u64 0, Value.slice none 0 0, Value.slice none 0 0] 94)).alloc (.cells #[Value.int .u64 0, Value.slice none 0 0, Value.slice none 0 0] 94)).drew := ⟨_, rfl⟩
        have hb5 : Below wr.heap.size wr W5 := by rw [hW5]; exact (((Below.refl _ _).alloc (Nat.le_refl _) _).alloc (by simp) _).drew
        have rA : RowAt W5 wr.heap.size 94 #[Value.int .u64 0, Value.slice none 0 0, Value.slice none 0 0] := by rw [hW5]; exact (Below.heap_alloc _ _ _ (by simp)).trans (heap_alloc_new wr _)
        have rB : RowAt W5 (wr.heap.size + 1) 94 #[Value.int .u64 0, Value.slice none 0 0, Value.slice none 0 0] := by rw [hW5]; have := heap_alloc_new (wr.alloc (.cells #[Value.int .u64 0, Value.slice none 0 0, Value.slice none 0 0] 94)) (.cells #[Value.int .u64 0, Value.slice none 0 0, Value.slice none 0 0] 94); rwa [World.size_alloc] at this
        rw [← hW5]
        refine hK.out _ _ (.inr (hSb.out _ (fun k hk => hb5.block k hk))) ?_
        clear hK K hW5
        have hne : wr.heap.size ≠ wr.heap.size + 1 := by omega
        have u0 : W5.cell? ⟨wr.heap.size, 0, none⟩ = some _ := rA.cell 0
        have uf0 := rA.own 0
        have u1 : W5.cell? ⟨wr.heap.size, 1, none⟩ = some _ := rA.cell 1
        have uf1 := rA.own 1
        have u2 : W5.cell? ⟨wr.heap.size, 2, none⟩ = some _ := rA.cell 2
        have uf2 := rA.own 2
        have v0 : W5.cell? ⟨(wr.heap.size + 1), 0, none⟩ = some _ := rB.cell 0
        have vf0 := rB.own 0
        have v1 : W5.cell? ⟨(wr.heap.size + 1), 1, none⟩ = some _ := rB.cell 1
        have vf1 := rB.own 1
        have v2 : W5.cell? ⟨(wr.heap.size + 1), 2, none⟩ = some _ := rB.cell 2
        have vf2 := rB.own 2
        refine readyG (rs := [12]) (by kernel_rfl) (by simp) (consG rfl (fun K hK => ?_) nilG)
        go_simp
        refine hK.out _ _ (.inr (hSb.out _ (fun k hk => (set3_keep _ (by omega) _ _ _).trans (hb5.block k hk)))) ?_
        clear hK K u0 u1 u2 uf0 uf1 uf2
        obtain ⟨W6, hW6⟩ : ∃ W6, W6 = set3 W5 wr.heap.size (Value.int .u64 (xa : Int)) (Value.slice xp mo xc) (Value.slice xq mn xd) := ⟨_, rfl⟩
        have rP6 : RowAt W6 wr.heap.size 94 #[Value.int .u64 (xa : Int), Value.slice xp mo xc, Value.slice xq mn xd] := by rw [hW6]; exact set3_row rA _ _ _
        have rQ6 : RowAt W6 (wr.heap.size + 1) 94 #[Value.int .u64 0, Value.slice none 0 0, Value.slice none 0 0] := by rw [hW6]; exact (set3_keep _ (by omega) _ _ _).trans rB
        have hk6 : ∀ k, k < wr.heap.size → W6.heap[k]? = wr.heap[k]? := by rw [hW6]; exact fun k hk => (set3_keep _ (by omega) _ _ _).trans (hb5.block k hk)
        have hf6 : W6.os = wr.os ∧ W6.tape = wr.tape ∧ W6.output = wr.output ∧ wr.heap.size ≤ W6.heap.size := by rw [hW6]; exact ⟨hb5.os, hb5.tape, hb5.output, by simp [set3, World.setCell]; exact hb5.size⟩
        unfold set3 at hW6
        rw [← hW6]
        clear hW6 v0 v1 v2 vf0 vf1 vf2 hb5 rA rB
        have v0 : W6.cell? ⟨(wr.heap.size + 1), 0, none⟩ = some _ := rQ6.cell 0
        have vf0 := rQ6.own 0
        have v1 : W6.cell? ⟨(wr.heap.size + 1), 1, none⟩ = some _ := rQ6.cell 1
        have vf1 := rQ6.own 1
        have v2 : W6.cell? ⟨(wr.heap.size + 1), 2, none⟩ = some _ := rQ6.cell 2
        have vf2 := rQ6.own 2
        refine readyG (rs := [13]) (by kernel_rfl) (by simp) (consG rfl (fun K hK => ?_) nilG)
        go_simp
        refine hK.out _ _ (.inl (by kernel_rfl)) ?_
        clear hK K
        refine doneG (by kernel_rfl) ?_ _
        obtain ⟨W7, hW7⟩ : ∃ W7, W7 = set3 W6 (wr.heap.size + 1) (Value.int .u64 (xa : Int)) (Value.slice yp mo yc) (Value.slice yq mn yd) := ⟨_, rfl⟩
        have rP7 : RowAt W7 wr.heap.size 94 #[Value.int .u64 (xa : Int), Value.slice xp mo xc, Value.slice xq mn xd] := by rw [hW7]; exact (set3_keep _ (by omega) _ _ _).trans rP6
        have rQ7 : RowAt W7 (wr.heap.size + 1) 94 #[Value.int .u64 (xa : Int), Value.slice yp mo yc, Value.slice yq mn yd] := by rw [hW7]; exact set3_row rQ6 _ _ _
        have hb7 : Below wr.heap.size wr W7 := by rw [hW7]; exact ⟨hf6.1, hf6.2.1, hf6.2.2.1, by simp [set3, World.setCell]; exact hf6.2.2.2, fun k hk => (set3_keep _ (by omega) _ _ _).trans (hk6 k hk)⟩
        unfold set3 at hW7
        rw [← hW7]
        clear hW7 v0 v1 v2 vf0 vf1 vf2 rP6 rQ6 hk6 hf6
        have u0 : W7.cell? ⟨wr.heap.size, 0, none⟩ = some _ := rP7.cell 0
        have u1 : W7.cell? ⟨wr.heap.size, 1, none⟩ = some _ := rP7.cell 1
        have u2 : W7.cell? ⟨wr.heap.size, 2, none⟩ = some _ := rP7.cell 2
        have v0 : W7.cell? ⟨(wr.heap.size + 1), 0, none⟩ = some _ := rQ7.cell 0
        have v1 : W7.cell? ⟨(wr.heap.size + 1), 1, none⟩ = some _ := rQ7.cell 1
        have v2 : W7.cell? ⟨(wr.heap.size + 1), 2, none⟩ = some _ := rQ7.cell 2
        have t1 := run_toString (P := Tryz.prog) (dst := 9) (w := W7) _ _ _ un_bsQ un_u8Q un_strQ ((HB.out.2.1).below hb7)
        have t2 := run_toString (P := Tryz.prog) (dst := 9) (w := W7) _ _ _ un_bsQ un_u8Q un_strQ ((HB.out.2.2.1).below hb7)
        have t3 := run_toString (P := Tryz.prog) (dst := 9) (w := W7) _ _ _ un_bsQ un_u8Q un_strQ ((HB.out.2.2.2.1).below hb7)
        have t4 := run_toString (P := Tryz.prog) (dst := 9) (w := W7) _ _ _ un_bsQ un_u8Q un_strQ ((HB.out.2.2.2.2.1).below hb7)
        have HE := hid (HB.out.1.trans (hb7.mono HB.out.1.size))
        clear rP7 rQ7 hb7 hne hS
        go_wp2_with fail
        exact ⟨⟨k + 1, by have := HB.out.2.2.2.2.2; omega, by go_num, HE.out⟩, by have := HB.out.2.2.2.2.2; simp [intOf]; omega⟩
      · go_simp
        refine hK.out _ _ (.inr (hSb.out _ (fun k hk => Below.heap_alloc _ _ _ hk))) ?_
        clear hK K
        refine readyG (rs := [10]) (by kernel_rfl) (by simp) (consG rfl (fun K hK => ?_) nilG)
        go_simp
        obtain ⟨W5, hW5⟩ : ∃ W5 : World, W5 = ((wr.alloc (.cells #[Value.int .u64 0, Value.slice none 0 0, Value.slice none 0 0] 94)).alloc (.cells #[Value.int .u64 0, Value.slice none 0 0, Value.slice none 0 0] 94)).drew := ⟨_, rfl⟩
        have hb5 : Below wr.heap.size wr W5 := by rw [hW5]; exact (((Below.refl _ _).alloc (Nat.le_refl _) _).alloc (by simp) _).drew
        have rA : RowAt W5 wr.heap.size 94 #[Value.int .u64 0, Value.slice none 0 0, Value.slice none 0 0] := by rw [hW5]; exact (Below.heap_alloc _ _ _ (by simp)).trans (heap_alloc_new wr _)
        have rB : RowAt W5 (wr.heap.size + 1) 94 #[Value.int .u64 0, Value.slice none 0 0, Value.slice none 0 0] := by rw [hW5]; have := heap_alloc_new (wr.alloc (.cells #[Value.int .u64 0, Value.slice none 0 0, Value.slice none 0 0] 94)) (.cells #[Value.int .u64 0, Value.slice none 0 0, Value.slice none 0 0] 94); rwa [World.size_alloc] at this
        rw [← hW5]
        refine hK.out _ _ (.inr (hSb.out _ (fun k hk => hb5.block k hk))) ?_
        clear hK K hW5
        have hne : wr.heap.size ≠ wr.heap.size + 1 := by omega
        have u0 : W5.cell? ⟨(wr.heap.size + 1), 0, none⟩ = some _ := rB.cell 0
        have uf0 := rB.own 0
        have u1 : W5.cell? ⟨(wr.heap.size + 1), 1, none⟩ = some _ := rB.cell 1
        have uf1 := rB.own 1
        have u2 : W5.cell? ⟨(wr.heap.size + 1), 2, none⟩ = some _ := rB.cell 2
        have uf2 := rB.own 2
        have v0 : W5.cell? ⟨wr.heap.size, 0, none⟩ = some _ := rA.cell 0
        have vf0 := rA.own 0
        have v1 : W5.cell? ⟨wr.heap.size, 1, none⟩ = some _ := rA.cell 1
        have vf1 := rA.own 1
        have v2 : W5.cell? ⟨wr.heap.size, 2, none⟩ = some _ := rA.cell 2
        have vf2 := rA.own 2
        refine readyG (rs := [12]) (by kernel_rfl) (by simp) (consG rfl (fun K hK => ?_) nilG)
        go_simp
        refine hK.out _ _ (.inr (hSb.out _ (fun k hk => (set3_keep _ (by omega) _ _ _).trans (hb5.block k hk)))) ?_
        clear hK K u0 u1 u2 uf0 uf1 uf2
        obtain ⟨W6, hW6⟩ : ∃ W6, W6 = set3 W5 (wr.heap.size + 1) (Value.int .u64 (xa : Int)) (Value.slice xp mo xc) (Value.slice xq mn xd) := ⟨_, rfl⟩
        have rP6 : RowAt W6 (wr.heap.size + 1) 94 #[Value.int .u64 (xa : Int), Value.slice xp mo xc, Value.slice xq mn xd] := by rw [hW6]; exact set3_row rB _ _ _
        have rQ6 : RowAt W6 wr.heap.size 94 #[Value.int .u64 0, Value.slice none 0 0, Value.slice none 0 0] := by rw [hW6]; exact (set3_keep _ (by omega) _ _ _).trans rA
        have hk6 : ∀ k, k < wr.heap.size → W6.heap[k]? = wr.heap[k]? := by rw [hW6]; exact fun k hk => (set3_keep _ (by omega) _ _ _).trans (hb5.block k hk)
        have hf6 : W6.os = wr.os ∧ W6.tape = wr.tape ∧ W6.output = wr.output ∧ wr.heap.size ≤ W6.heap.size := by rw [hW6]; exact ⟨hb5.os, hb5.tape, hb5.output, by simp [set3, World.setCell]; exact hb5.size⟩
        unfold set3 at hW6
        rw [← hW6]
        clear hW6 v0 v1 v2 vf0 vf1 vf2 hb5 rA rB
        have v0 : W6.cell? ⟨wr.heap.size, 0, none⟩ = some _ := rQ6.cell 0
        have vf0 := rQ6.own 0
        have v1 : W6.cell? ⟨wr.heap.size, 1, none⟩ = some _ := rQ6.cell 1
        have vf1 := rQ6.own 1
        have v2 : W6.cell? ⟨wr.heap.size, 2, none⟩ = some _ := rQ6.cell 2
        have vf2 := rQ6.own 2
        refine readyG (rs := [13]) (by kernel_rfl) (by simp) (consG rfl (fun K hK => ?_) nilG)
        go_simp
        refine hK.out _ _ (.inl (by kernel_rfl)) ?_
        clear hK K
        refine doneG (by kernel_rfl) ?_ _
        obtain ⟨W7, hW7⟩ : ∃ W7, W7 = set3 W6 wr.heap.size (Value.int .u64 (xa : Int)) (Value.slice yp mo yc) (Value.slice yq mn yd) := ⟨_, rfl⟩
        have rP7 : RowAt W7 (wr.heap.size + 1) 94 #[Value.int .u64 (xa : Int), Value.slice xp mo xc, Value.slice xq mn xd] := by rw [hW7]; exact (set3_keep _ (by omega) _ _ _).trans rP6
        have rQ7 : RowAt W7 wr.heap.size 94 #[Value.int .u64 (xa : Int), Value.slice yp mo yc, Value.slice yq mn yd] := by rw [hW7]; exact set3_row rQ6 _ _ _
        have hb7 : Below wr.heap.size wr W7 := by rw [hW7]; exact ⟨hf6.1, hf6.2.1, hf6.2.2.1, by simp [set3, World.setCell]; exact hf6.2.2.2, fun k hk => (set3_keep _ (by omega) _ _ _).trans (hk6 k hk)⟩
        unfold set3 at hW7
        rw [← hW7]
        clear hW7 v0 v1 v2 vf0 vf1 vf2 rP6 rQ6 hk6 hf6
        have u0 : W7.cell? ⟨(wr.heap.size + 1), 0, none⟩ = some _ := rP7.cell 0
        have u1 : W7.cell? ⟨(wr.heap.size + 1), 1, none⟩ = some _ := rP7.cell 1
        have u2 : W7.cell? ⟨(wr.heap.size + 1), 2, none⟩ = some _ := rP7.cell 2
        have v0 : W7.cell? ⟨wr.heap.size, 0, none⟩ = some _ := rQ7.cell 0
        have v1 : W7.cell? ⟨wr.heap.size, 1, none⟩ = some _ := rQ7.cell 1
        have v2 : W7.cell? ⟨wr.heap.size, 2, none⟩ = some _ := rQ7.cell 2
        have t1 := run_toString (P := Tryz.prog) (dst := 9) (w := W7) _ _ _ un_bsQ un_u8Q un_strQ ((HB.out.2.1).below hb7)
        have t2 := run_toString (P := Tryz.prog) (dst := 9) (w := W7) _ _ _ un_bsQ un_u8Q un_strQ ((HB.out.2.2.1).below hb7)
        have t3 := run_toString (P := Tryz.prog) (dst := 9) (w := W7) _ _ _ un_bsQ un_u8Q un_strQ ((HB.out.2.2.2.1).below hb7)
        have t4 := run_toString (P := Tryz.prog) (dst := 9) (w := W7) _ _ _ un_bsQ un_u8Q un_strQ ((HB.out.2.2.2.2.1).below hb7)
        have HE := hid (HB.out.1.trans (hb7.mono HB.out.1.size))
        clear rP7 rQ7 hb7 hne hS
        go_wp2_with fail
        exact ⟨⟨k + 1, by have := HB.out.2.2.2.2.2; omega, by go_num, HE.out⟩, by have := HB.out.2.2.2.2.2; simp [intOf]; omega⟩
    · have HB := hid hbw
      have hd : decide ((k : Int) < (n : Int)) = false := decide_eq_false (by omega)
      clear hw hk hbw hr1 hr2
      go_wp2_with fail
      go_ret
      exact ⟨rfl, HB.out⟩
end Go.Proofs.YtjfkgdfmkofbmaaGreatDoor
