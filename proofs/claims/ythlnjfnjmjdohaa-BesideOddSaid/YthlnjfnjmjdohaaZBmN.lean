/- Rows laid on a memory as the document does it: walked. -/
import Derived.Test.YthlnjfnjmjdohaaZBmK
import Derived.Test.YthlnjfnjmjdohaaZBrD
namespace Go.Proofs.Ythlnjfnjmjdohaa
set_option linter.unusedSimpArgs false
set_option linter.unusedVariables false
open Go.RowKit

theorem mayZ_lost {r : Rz} (h : mayRowsZ r = true) : mayZ r.lost = true ∧ mayZ r.gained = true ∧ mayZ (r.patches.map oldM) = true ∧ mayZ (r.patches.map newM) = true ∧ r.patches.any longM = false ∧ meetC (cellsZ (r.patches.map oldM)) (cellsZ r.lost) = false ∧ meetC (cellsZ (r.patches.map oldM)) (cellsZ r.gained) = false := by
  unfold mayRowsZ at h
  simp only [Bool.and_eq_true, Bool.not_eq_true'] at h
  obtain ⟨⟨⟨⟨⟨⟨m1, m2⟩, m3⟩, m4⟩, m5⟩, m6⟩, m7⟩ := h
  exact ⟨m1, m2, m3, m4, m5, m6, m7⟩
theorem cell_in {P : List Gz} {g : Gz} {j : Nat} {b : UInt8} (hg : g ∈ P) (hj : g.old[j]? = some b) : (⟨g.at_ + j, 1, b⟩ : Cz) ∈ cellsZ (P.map oldM) :=
  List.mem_flatMap.2 ⟨oldM g, List.mem_map_of_mem hg, List.mem_of_getElem? (cellsAt_get 1 g.at_ g.old j b hj)⟩
theorem new_step {P : List Gz} {i : Nat} {g : Gz} (hg : P[i]? = some g) : cellsZ ((P.take (i + 1)).map newM) = cellsZ ((P.take i).map newM) ++ cellsAt 1 g.at_ g.new := by
  unfold cellsZ
  rw [List.take_add_one, hg, List.map_append, List.flatMap_append]
  simp [Pz.cells, newM]
theorem new_prefix {P : List Gz} {i j : Nat} {g : Gz} {b : UInt8} (hm : mayZ (P.map newM) = true) (hg : P[i]? = some g) (hj : g.new[j]? = some b) : ∀ c ∈ cellsZ ((P.take i).map newM) ++ cellsAt 1 g.at_ (g.new.take j), c.at_ ≠ g.at_ + j := by
  have hu := (srt_of_may hm).up
  have e1 : cellsZ (P.map newM) = cellsZ ((P.take (i + 1)).map newM) ++ cellsZ ((P.drop (i + 1)).map newM) := by
    conv => lhs; rw [← List.take_append_drop (i + 1) P]
    unfold cellsZ
    rw [List.map_append, List.flatMap_append]
  have e2 : cellsAt 1 g.at_ g.new = cellsAt 1 g.at_ (g.new.take j) ++ (⟨g.at_ + j, 1, b⟩ :: cellsAt 1 (g.at_ + j + 1) (g.new.drop (j + 1))) := by
    have hl := (List.getElem?_eq_some_iff.1 hj).1
    conv => lhs; rw [← List.take_append_drop j g.new, cellsAt_append, List.length_take, Nat.min_eq_left (Nat.le_of_lt hl), drop_at hj]
    rfl
  rw [e1, new_step hg, e2, ← List.append_assoc] at hu
  have hp := (List.pairwise_append.1 (List.pairwise_append.1 hu).1).2.2
  intro c hc e
  have := hp c hc ⟨g.at_ + j, 1, b⟩ List.mem_cons_self
  dsimp only at this
  omega
theorem found_k {C : List Cz} {a k : Nat} {c : Cz} {z : Int} (hu : Up C) (h : FoundZ C a z) (hk : C[k]? = some c) (hc : c.at_ = a) : z = (k : Int) := by
  rcases h with ⟨k', c', h1, h2, h3⟩ | ⟨h1, h2⟩
  · rcases Nat.lt_trichotomy k k' with q | q | q
    · have := up_at hu hk h1 q; omega
    · rw [h3, q]
    · have := up_at hu h1 hk q; omega
  · exact absurd hc (h2 c (List.mem_of_getElem? hk))
/-- A patch that is copied, and the byte that is read. -/
structure CpyV (wr W : World) (K xa nn gn on xc2 j : Nat) (b : UInt8) : Prop where
  bel : Below wr.heap.size wr W
  c0 : W.cell? ⟨K, 0, none⟩ = some (.int .u64 (xa : Int))
  c2 : W.cell? ⟨K, 2, none⟩ = some (.slice (some ⟨gn, on, none⟩) nn xc2)
  cb : W.cell? ⟨gn, on + j, none⟩ = some (.int .u8 (b.toNat : Int))
theorem CpyV.below {wr W W' : World} {K xa nn gn on xc2 j : Nat} {b : UInt8} (h : CpyV wr W K xa nn gn on xc2 j b) (hb : Below W.heap.size W W') : CpyV wr W' K xa nn gn on xc2 j b :=
  ⟨h.bel.trans (hb.mono h.bel.size), below_cell' hb (World.block_lt_of_cell? W _ h.c0) h.c0, below_cell' hb (World.block_lt_of_cell? W _ h.c2) h.c2, below_cell' hb (World.block_lt_of_cell? W _ h.cb) h.cb⟩
theorem set_other {W : World} {b i : Nat} {g k : Nat} {u v : Value} (hne : b ≠ g) (h : W.cell? ⟨b, i, none⟩ = some v) : (W.setCell ⟨g, k, none⟩ u).cell? ⟨b, i, none⟩ = some v :=
  (World.cell?_of_block (heap_setCell_other W ⟨g, k, none⟩ b u hne)).trans h
theorem bel_grewG {w W W1 : World} {v v' : Value} {e : TypeId} {sz k : Nat} {xs : List Value} (hb : Below w.heap.size w W) (ho : W.ownsRow w.heap.size e sz v k xs) (hg : Grew W W1 v v') : Below w.heap.size w W1 :=
  ⟨hg.by_.os.trans hb.os, hg.by_.tape.trans hb.tape, hg.by_.output.trans hb.output, Nat.le_trans hb.size hg.size, fun j hj => (hg.block (Nat.lt_of_lt_of_le hj hb.size) (fun e => by have := (World.ownsRow.lt ho j e).1; omega)).trans (hb.block j hj)⟩
theorem CellsEnd.own {w w' : World} {L : List Pz} {e : Ending} (h : CellsEnd w L e w') (hm : mayZ L = true) : ∃ p c, e = .returned (.tuple #[.slice p (cellsZ L).length c, .bool true]) ∧ Below w.heap.size w w' ∧ OwnC w' w.heap.size (.slice p (cellsZ L).length c) (cellsZ L) := by
  obtain ⟨v, h1, h2, h3⟩ := h
  rw [if_pos hm] at h3
  rw [hm] at h1
  obtain ⟨p, n, c, rfl⟩ := own_form h3
  have hn := RowsAt.len' (own3_reads czLen h3)
  subst hn
  exact ⟨p, c, h1, h2, h3⟩

set_option maxHeartbeats 8000000 in
set_option maxRecDepth 8000 in
theorem br_lay (w : World) (v vl vg vp : Value) (L Ll Lg : List PzV) (Lp : List PaV) (hL : PzsAt w v L) (hl : PzsAt w vl Ll) (hg : PzsAt w vg Lg) (hp : PasAt w vp Lp) (hat : ∀ x ∈ Lp, x.at_ < 2 ^ 64)
    (hn : L.length ≤ 100000) (hnl : Ll.length ≤ 100000) (hng : Lg.length ≤ 100000) (hnp : Lp.length ≤ 100000) (hca : (cellsZ (L.map PzV.m)).length ≤ 90000) (hcl : (cellsZ (Ll.map PzV.m)).length ≤ 90000) (hcg : (cellsZ (Lg.map PzV.m)).length ≤ 90000) :
    Calls Try.prog 19 #[v, .agg #[vl, vg, vp]] w (LayEnd w (layZ (L.map PzV.m) (rzV Ll Lg Lp))) := by
  have hyA := hid (fun W (hb : Below w.heap.size w W) => br_cells W _ L (hL.below hb) hn (by omega))
  have hyL := hid (fun W (hb : Below w.heap.size w W) => br_cells W _ Ll (hl.below hb) hnl (by omega))
  have hyG := hid (fun W (hb : Below w.heap.size w W) => br_cells W _ Lg (hg.below hb) hng (by omega))
  have hyR := hid (fun W (hb : Below w.heap.size w W) => br_mayRows W _ _ _ Ll Lg Lp (hl.below hb) (hg.below hb) (hp.below hb) hat hnl hng hnp (by omega) (by omega))
  rw [mayRowsR_is] at hyR
  obtain ⟨pa, ca, rfl⟩ := RowsAt.form hL.rows
  obtain ⟨p1, p2, rfl⟩ := RowsAt.form hl.rows
  obtain ⟨p3, p4, rfl⟩ := RowsAt.form hg.rows
  obtain ⟨p5, p6, rfl⟩ := RowsAt.form hp.rows
  obtain ⟨na, eha⟩ : ∃ n, n = L.length := ⟨_, rfl⟩
  obtain ⟨nl, ehl⟩ : ∃ n, n = Ll.length := ⟨_, rfl⟩
  obtain ⟨ng, ehg⟩ : ∃ n, n = Lg.length := ⟨_, rfl⟩
  obtain ⟨N, ehp⟩ : ∃ n, n = Lp.length := ⟨_, rfl⟩
  rw [← eha] at hyA hL ⊢
  rw [← ehl] at hyL hyR hl ⊢
  rw [← ehg] at hyG hyR hg ⊢
  rw [← ehp] at hp hnp hyR ⊢
  obtain ⟨R, hR⟩ : ∃ R, R = layZ (L.map PzV.m) (rzV Ll Lg Lp) := ⟨_, rfl⟩
  rw [← hR]
  have HR := hid hR
  have H := hid (And.intro hp (And.intro hat (And.intro hnp ehp)))
  have HC := hid (And.intro hca (And.intro hcl hcg))
  clear hL hl hg hp hn hnl hng hnp hat eha ehl ehg ehp hR hca hcl hcg
  go_enter Try.func19, Try.ntmps19
  go_upto_region 1 with fail
  obtain ⟨V, hV⟩ : ∃ V, V = w.alloc (.cells #[.slice p1 nl p2, .slice p3 ng p4, .slice p5 N p6] 28) := ⟨_, rfl⟩
  have bV : Below w.heap.size w V := by rw [hV]; exact (Below.refl _ _).alloc (Nat.le_refl _) _
  have rV : RowAt V w.heap.size 28 #[.slice p1 nl p2, .slice p3 ng p4, .slice p5 N p6] := by rw [hV]; exact heap_alloc_new w _
  have sV : V.heap.size = w.heap.size + 1 := by rw [hV]; simp
  rw [← hV]
  clear hV
  have HV := hid (And.intro bV (And.intro rV sV))
  clear bV rV sV
  go_wp2_with fail
  refine (hyA.out V HV.out.1).mono ?_
  intro e w1 h1
  cases hmA : mayZ (L.map PzV.m) with
  | false =>
    obtain ⟨q1, n1, q2, rfl, hb1, -⟩ := h1.get
    rw [hmA]
    have hRf : R = (2, []) := by rw [HR.out]; unfold layZ; rw [hmA]; rfl
    subst hRf
    have bw1 := HV.out.1.trans (hb1.mono HV.out.1.size)
    have HB := hid bw1
    clear h1 hb1 bw1 hmA
    go_wp2_with fail
    refine bodyPost_ret (v := .tuple #[.slice none 0 0, .int .i64 2]) (by simp [results, Try.results19, go_sem]) rfl ?_
    exact ⟨_, rfl, (NewOwn.nil w).below HB.out⟩
  | true =>
    obtain ⟨q1, q2, rfl, hb1, ho1⟩ := h1.own hmA
    obtain ⟨C, hC⟩ : ∃ C, C = cellsZ (L.map PzV.m) := ⟨_, rfl⟩
    rw [← hC] at ho1 ⊢
    obtain ⟨nc, hnc⟩ : ∃ n, n = C.length := ⟨_, rfl⟩
    rw [← hnc] at ho1 ⊢
    have bw1 := HV.out.1.trans (hb1.mono HV.out.1.size)
    have rw1 := RowAt.below HV.out.2.1 hb1
    have z0 : w1.cell? ⟨w.heap.size, 0, none⟩ = some (.slice p1 nl p2) := rw1.cell 0
    have z1 : w1.cell? ⟨w.heap.size, 1, none⟩ = some (.slice p3 ng p4) := rw1.cell 1
    have z2 : w1.cell? ⟨w.heap.size, 2, none⟩ = some (.slice p5 N p6) := rw1.cell 2
    have H1 := hid (And.intro bw1 (And.intro rw1 (And.intro ho1 (And.intro hC (And.intro hnc hmA)))))
    clear h1 hb1 bw1 rw1 ho1 hC hnc hmA
    go_wp2_with fail
    refine (hyR.out w1 H1.out.1).mono ?_
    rintro e w2 ⟨rfl, hb2⟩
    have bw2 := H1.out.1.trans (hb2.mono H1.out.1.size)
    have rw2 := RowAt.below H1.out.2.1 hb2
    have ho2 := ownsRow_below H1.out.2.2.1 hb2
    have H2 := hid (And.intro bw2 (And.intro rw2 ho2))
    clear hb2 bw2 rw2 ho2 z0 z1 z2
    cases hmR : mayRowsZ (rzV Ll Lg Lp) with
    | false =>
      have hRf : R = (2, []) := by rw [HR.out]; unfold layZ; rw [hmR, Bool.and_false]; rfl
      subst hRf
      clear hmR
      go_wp2_with fail
      refine bodyPost_ret (v := .tuple #[.slice none 0 0, .int .i64 2]) (by simp [results, Try.results19, go_sem]) rfl ?_
      exact ⟨_, rfl, (NewOwn.nil w).below H2.out.1⟩
    | true =>
      have hRR : R = ((layOf (L.map PzV.m) (rzV Ll Lg Lp)).1, piecesZ (layOf (L.map PzV.m) (rzV Ll Lg Lp)).2) := by rw [HR.out]; unfold layZ; rw [H1.out.2.2.2.2.2, hmR]; rfl
      have hms := mayZ_lost hmR
      have HM := hid (And.intro hRR hms)
      have z0 : w2.cell? ⟨w.heap.size, 0, none⟩ = some (.slice p1 nl p2) := H2.out.2.1.cell 0
      clear hmR hRR hms
      go_wp2_with fail
      refine (hyL.out w2 H2.out.1).mono ?_
      intro e w3 h3
      obtain ⟨q3, q4, rfl, hb3, ho3⟩ := h3.own HM.out.2.1
      obtain ⟨D, hD⟩ : ∃ D, D = cellsZ (Ll.map PzV.m) := ⟨_, rfl⟩
      rw [← hD] at ho3 ⊢
      obtain ⟨nd, hnd⟩ : ∃ n, n = D.length := ⟨_, rfl⟩
      rw [← hnd] at ho3 ⊢
      have bw3 := H2.out.1.trans (hb3.mono H2.out.1.size)
      have rw3 := RowAt.below H2.out.2.1 hb3
      have hc3 := ownsRow_below H2.out.2.2 hb3
      have z1 : w3.cell? ⟨w.heap.size, 1, none⟩ = some (.slice p3 ng p4) := rw3.cell 1
      have hs3 := hb3.size
      have H3 := hid (And.intro bw3 (And.intro rw3 (And.intro hc3 (And.intro ho3 (And.intro hD (And.intro hnd hs3))))))
      clear h3 hb3 bw3 rw3 hc3 ho3 hD hnd z0 hs3
      go_wp2_with fail
      refine (hyG.out w3 H3.out.1).mono ?_
      intro e w4 h4
      obtain ⟨q5, q6, rfl, hb4, ho4⟩ := h4.own HM.out.2.2.1
      obtain ⟨G, hG⟩ : ∃ G, G = cellsZ (Lg.map PzV.m) := ⟨_, rfl⟩
      rw [← hG] at ho4 ⊢
      obtain ⟨nG, hnG⟩ : ∃ n, n = G.length := ⟨_, rfl⟩
      rw [← hnG] at ho4 ⊢
      have bw4 := H3.out.1.trans (hb4.mono H3.out.1.size)
      have rw4 := RowAt.below H3.out.2.1 hb4
      have hc4 := ownsRow_below H3.out.2.2.1 hb4
      have hd4 := ownsRow_below H3.out.2.2.2.1 hb4
      have hnc : nc ≤ 90000 := by have h1 := H1.out.2.2.2.2.1; have h2 := H1.out.2.2.2.1; have h3 := HC.out.1; rw [h1, h2]; exact h3
      have hmk := make_bools w4 nc (by omega)
      obtain ⟨W5, hW5⟩ : ∃ W, W = w4.alloc (.cells (boolsV (List.replicate nc false)).toArray 4) := ⟨_, rfl⟩
      have b5 : Below w4.heap.size w4 W5 := by rw [hW5]; exact (Below.refl _ _).alloc (Nat.le_refl _) _
      have g5 : RowAt W5 w4.heap.size 4 (boolsV (List.replicate nc false)).toArray := by rw [hW5]; exact heap_alloc_new _ _
      rw [← hW5] at hmk
      have hd5 := ownsRow_below hd4 b5
      have hR5 : LayR w #[.slice p1 nl p2, .slice p3 ng p4, .slice p5 N p6] w4.heap.size (.slice q1 nc q2) (.slice q5 nG q6) C G (goneL C []) W5 := by
        have hsV := HV.out.2.2
        have hs2 := H2.out.2.1.lt
        have hs3 := H3.out.2.2.2.2.2.2
        have hs4 := hb4.size
        have l6 := World.ownsRow.lt H2.out.2.2
        have l4 := World.ownsRow.lt ho4
        refine ⟨bw4.trans (b5.mono bw4.size), RowAt.below rw4 b5, ownsRow_base (ownsRow_below hc4 b5) (by omega), ownsRow_base (ownsRow_below ho4 b5) (by omega), ?_, fun k hk => ⟨fun e => ?_, ?_⟩, fun k hk => ?_, by omega⟩
        · rw [gone_nil, ← H1.out.2.2.2.2.1]; exact g5
        · have := (l6 k hk).2; have := (l4 k e).1; omega
        · have := (l6 k hk).2; omega
        · have := (l4 k hk).2; omega
      have hlb : ∀ k, (Value.slice q3 nd q4).ownBlock = some k → k < w4.heap.size := fun k hk => (World.ownsRow.lt hd4 k hk).2
      have hmiss : ∀ d ∈ D, d ∉ C → R = (17, []) := fun d hd hn => by
        have e0 : layOf (L.map PzV.m) (rzV Ll Lg Lp) = (17, []) := layC_miss (missC_iff.2 ⟨d, by rw [H3.out.2.2.2.2.1] at hd; exact hd, by rw [H1.out.2.2.2.1] at hn; exact hn⟩)
        rw [HM.out.1, e0]; rfl
      have HMS := hid hmiss
      have H5 := hid (And.intro hR5 (And.intro hd5 (And.intro hG (And.intro hnG (And.intro hnc hlb)))))
      clear hlb hmiss
      clear h4 hb4 bw4 rw4 hc4 hd4 ho4 hG hnG hnc b5 g5 hd5 hR5 hW5 z1
      go_wp2_with fail
      go_loopw [13, 14] (fun vi v14 wr => ∃ i : Nat, i ≤ nd ∧ vi = .int .i64 (i : Int) ∧ LayR w #[.slice p1 nl p2, .slice p3 ng p4, .slice p5 N p6] w4.heap.size (.slice q1 nc q2) (.slice q5 nG q6) C G (goneL C (D.take i)) wr ∧ wr.ownsRow w2.heap.size 63 3 (.slice q3 nd q4) D.length (D.flatMap czC) ∧ ∀ d ∈ D.take i, d ∈ C) (fun vi _ _ => nd - (intOf vi).toNat)
      case atStart => exact ⟨0, Nat.zero_le _, rfl, H5.out.1, H5.out.2.1, fun d hd => by cases hd⟩
      case round =>
        obtain ⟨i, hi, rfl, hR, hdr, hin⟩ := hrel
        by_cases hlt : i < nd
        · obtain ⟨d, hd⟩ : ∃ d, D[i]? = some d := ⟨_, List.getElem?_eq_getElem (by have := H3.out.2.2.2.2.2.1; omega)⟩
          obtain ⟨gd, capd, curd, ed, hcd, hud⟩ := own3_rows czLen hdr hd
          have e3 : q3 = some ⟨gd, 0, none⟩ := by cases ed; rfl
          subst e3
          clear ed
          have d0 : wr.cell? ⟨gd, i * 3, none⟩ = some (.int .u64 (d.at_ : Int)) := by simp only [World.cell?, hcd]; simpa using hud 0 _ rfl
          have d1 : wr.cell? ⟨gd, i * 3 + 1, none⟩ = some (.int .i64 d.prot) := by simp only [World.cell?, hcd]; exact hud 1 _ rfl
          have d2 : wr.cell? ⟨gd, i * 3 + 2, none⟩ = some (.int .u8 (d.b.toNat : Int)) := by simp only [World.cell?, hcd]; exact hud 2 _ rfl
          have hokC : OkC C := by rw [H1.out.2.2.2.1]; exact okC_of H1.out.2.2.2.2.2
          have hokD : OkC D := by rw [H3.out.2.2.2.2.1]; exact okC_of HM.out.2.1
          have lt64 : ∀ {C : List Cz}, OkC C → ∀ c ∈ C, c.at_ < 2 ^ 64 := fun h c hc => by have := (h.ok c hc).1; unfold MAXA at this; omega
          have hnc := H5.out.2.2.2.2.1
          have hf := br_find wr _ C d.at_ hR.rows6 hokC.up (lt64 hokD d (List.mem_of_getElem? hd)) (lt64 hokC) (by have := H1.out.2.2.2.2.1; omega)
          have hltz : decide ((i : Int) < (nd : Int)) = true := by rw [decide_eq_true_eq]; omega
          have hltn : decide (i < nd) = true := by rw [decide_eq_true_eq]; omega
          have i1 : (0 : Int) ≤ (i : Int) := by omega
          have i2 : (i : Int) < (nd : Int) := by omega
          have hwi : IntKind.i64.wrap ((i : Int) + 1) = ((i + 1 : Nat) : Int) := (IntWalk.i64_in _ (by have h1 := H3.out.2.2.2.2.2.1; have h2 := H3.out.2.2.2.2.1; have h3 := HC.out.2.1; rw [← h2, ← h1] at h3; omega)).trans (by omega)
          have HI := hid (And.intro hR (And.intro hdr (And.intro hin (And.intro hd (And.intro hlt (And.intro hokC hokD))))))
          have HF := hid hf
          clear hR hdr hin hd hlt hi hcd hud hokC hokD lt64 hf hnc
          go_wp2_with fail
          refine HF.out.mono ?_
          rintro e wf ⟨z, rfl, hbf, hz⟩
          have hRf := HI.out.1.below hbf
          have hdf := ownsRow_below HI.out.2.1 hbf
          have HFF := hid (And.intro hRf (And.intro hdf hbf))
          have HZ := hid hz
          clear hRf hdf hz hbf d0 d1 d2
          rcases HZ.out with ⟨k, c, hc, hca, hzz⟩ | ⟨hzz, hnone⟩
          · subst hzz
            obtain ⟨g6, e6, c0, c1, c2, -⟩ := HFF.out.1.cell hc
            subst e6
            obtain ⟨gd', capd, curd, ed, hcd, hud⟩ := own3_rows czLen HFF.out.2.1 HI.out.2.2.2.1
            cases ed
            have d0 : wf.cell? ⟨gd, i * 3, none⟩ = some (.int .u64 (d.at_ : Int)) := by simp only [World.cell?, hcd]; simpa using hud 0 _ rfl
            have d1 : wf.cell? ⟨gd, i * 3 + 1, none⟩ = some (.int .i64 d.prot) := by simp only [World.cell?, hcd]; exact hud 1 _ rfl
            have d2 : wf.cell? ⟨gd, i * 3 + 2, none⟩ = some (.int .u8 (d.b.toNat : Int)) := by simp only [World.cell?, hcd]; exact hud 2 _ rfl
            have e0 : decide ((k : Int) < 0) = false := by rw [decide_eq_false_iff_not]; omega
            have kl := (List.getElem?_eq_some_iff.1 hc).1
            have i3 : (0 : Int) ≤ (k : Int) := by omega
            have i4 : (k : Int) < (nc : Int) := by have := H1.out.2.2.2.2.1; omega
            have i5 : k < nc := by have := H1.out.2.2.2.2.1; omega
            have HK := hid (And.intro hc (And.intro hca kl))
            clear hc hcd hud kl
            go_wp2_with fail
            obtain ⟨ca', cp, cb⟩ := c
            obtain ⟨da, dp, db⟩ := d
            dsimp only at hca d0 d1 d2 c0 c1 c2 HI HK HZ ⊢
            subst hca
            by_cases hp : cp = dp
            · subst hp
              by_cases hb : cb = db
              · subst hb
                have hmk2 := HFF.out.1.mark k
                have hfl := HFF.out.1.flag (i := k) (b := goneC (D.take i) ⟨ca', cp, cb⟩) (by unfold goneL; rw [List.getElem?_map, HK.out.1]; rfl)
                have f0 := hfl.1
                have f1 := hfl.2
                have HMK := hid hmk2
                clear hmk2 hfl
                go_quiet (fail)
                go_wp2_with fail
                have hgs := gone_snoc (L := C) (D := D.take i) (d := ⟨ca', cp, cb⟩) HI.out.2.2.2.2.2.1.up HK.out.1 rfl
                have htk : D.take (i + 1) = D.take i ++ [⟨ca', cp, cb⟩] := by rw [List.take_add_one, HI.out.2.2.2.1]; rfl
                have hbn := below_drewNP (Below.refl (wf.setCell ⟨w4.heap.size, k, none⟩ (.bool true)).heap.size (wf.setCell ⟨w4.heap.size, k, none⟩ (.bool true)))
                refine ⟨⟨i + 1, by have := HI.out.2.2.2.2.1; omega, by go_num, ?_, ?_, ?_⟩, by simp only [intOf, Int.toNat_natCast]; have := HI.out.2.2.2.2.1; omega⟩
                · rw [htk, hgs]
                  exact HMK.out.below (hbn _)
                · refine ownsRow_below (owns_of_block HFF.out.2.1 (fun j hj => heap_setCell_other _ _ _ _ (fun e => ?_))) (hbn _)
                  have := H5.out.2.2.2.2.2 j hj
                  have e : j = w4.heap.size := e
                  omega
                · rw [htk]
                  intro x hx
                  rcases List.mem_append.1 hx with hx | hx
                  · exact HI.out.2.2.1 x hx
                  · rw [List.mem_singleton] at hx; subst hx; exact List.mem_of_getElem? HK.out.1
              · have e1 : ((cb.toNat : Int) == (db.toNat : Int)) = false := by simp only [beq_eq_false_iff_ne]; exact fun e => hb (UInt8.toNat_inj.1 (by omega))
                have hRf : R = (17, []) := HMS.out _ (List.mem_of_getElem? HI.out.2.2.2.1) (fun h => hb (Cz.mk.inj ((found_eq (d := ⟨ca', cp, db⟩) HI.out.2.2.2.2.2.1.up HK.out.1 rfl).1 h)).2.2)
                subst hRf
                clear hb
                go_quiet (fail)
                go_wp2_with fail
                refine bodyPost_ret (v := .tuple #[.slice none 0 0, .int .i64 17]) (by simp [results, Try.results19, go_sem]) rfl ?_
                exact ⟨_, rfl, (NewOwn.nil w).below (below_drewNP HFF.out.1.bel _)⟩
            · have e1 : (cp == dp) = false := by simpa using hp
              have hRf : R = (17, []) := HMS.out _ (List.mem_of_getElem? HI.out.2.2.2.1) (fun h => hp (Cz.mk.inj ((found_eq (d := ⟨ca', dp, db⟩) HI.out.2.2.2.2.2.1.up HK.out.1 rfl).1 h)).2.1)
              subst hRf
              clear hp
              go_quiet (fail)
              go_wp2_with fail
              refine bodyPost_ret (v := .tuple #[.slice none 0 0, .int .i64 17]) (by simp [results, Try.results19, go_sem]) rfl ?_
              exact ⟨_, rfl, (NewOwn.nil w).below (below_drewNP HFF.out.1.bel _)⟩
          · subst hzz
            have hRf : R = (17, []) := HMS.out _ (List.mem_of_getElem? HI.out.2.2.2.1) (fun h => hnone _ h rfl)
            subst hRf
            clear hnone
            go_wp2_with fail
            go_quiet (fail)
            go_wp2_with fail
            refine bodyPost_ret (v := .tuple #[.slice none 0 0, .int .i64 17]) (by simp [results, Try.results19, go_sem]) rfl ?_
            exact ⟨_, rfl, (NewOwn.nil w).below (below_drewNP HFF.out.1.bel _)⟩
        · have hin' : i = nd := by omega
          have hDl := H3.out.2.2.2.2.2.1
          have htk : D.take i = D := by rw [hin', hDl, List.take_length]
          rw [htk] at hR hin
          have hltz : decide ((i : Int) < (nd : Int)) = false := by rw [decide_eq_false_iff_not]; omega
          have hltn : decide (i < nd) = false := by rw [decide_eq_false_iff_not]; omega
          have hms : missC C D = false := by
            rw [← Bool.not_eq_true, missC_iff]
            rintro ⟨d, hd, hn⟩
            exact hn (hin d hd)
          have HA := hid (And.intro hR hms)
          clear hR hdr hin hlt hi hin' hDl htk hms
          have hP : (rzV Ll Lg Lp).patches = Lp.map PaV.m := rfl
          obtain ⟨P, hPP⟩ : ∃ P, P = Lp.map PaV.m := ⟨_, rfl⟩
          have hPN : P.length = N := by rw [hPP, List.length_map]; exact H.out.2.2.2.symm
          have hms := HM.out.2.2.2
          rw [hP, ← hPP] at hms
          have hokC : OkC C := by rw [H1.out.2.2.2.1]; exact okC_of H1.out.2.2.2.2.2
          have hokD : OkC D := by rw [H3.out.2.2.2.2.1]; exact okC_of HM.out.2.1
          have lt64 : ∀ {C : List Cz}, OkC C → ∀ c ∈ C, c.at_ < 2 ^ 64 := fun h c hc => by have := (h.ok c hc).1; unfold MAXA at this; omega
          have hgm : ∀ g ∈ P, g.at_ + g.old.length ≤ MAXA ∧ g.new.length = g.old.length := fun g hg => by
            refine ⟨((srt_of_may hms.1).at_le (oldM g) (List.mem_map_of_mem hg)).2.1, ?_⟩
            have h1 := hms.2.2.1
            rw [← Bool.not_eq_true, List.any_eq_true] at h1
            refine Classical.byContradiction (fun hn => h1 ⟨g, hg, ?_⟩)
            unfold longM
            simpa using fun e : g.old.length = g.new.length => hn e.symm
          have hothF : (∃ c ∈ cellsZ (P.map oldM), byteAt C c.at_ ≠ some c.b) → R = (17, []) := fun h => by
            have e0 : layOf (L.map PzV.m) (rzV Ll Lg Lp) = (17, []) := by
              refine layC_oth (by rw [← H1.out.2.2.2.1]; show missC C (cellsZ (Ll.map PzV.m)) = false; rw [← H3.out.2.2.2.2.1]; exact HA.out.2) ?_
              show othC (minusC (cellsZ (L.map PzV.m)) (cellsZ (Ll.map PzV.m))) (cellsZ ((Lp.map PaV.m).map oldM)) = true
              rw [oth_minus (by rw [← hPP]; exact hms.2.2.2.1), ← H1.out.2.2.2.1, ← hPP]
              exact othC_iff.2 h
            rw [HM.out.1, e0]; rfl
          have HP := hid (And.intro hPP (And.intro hPN (And.intro hms (And.intro hokC (And.intro hokD (And.intro hgm hothF))))))
          clear hP hPP hPN hms hokC hokD hgm hothF
          go_wp2_with fail
          go_loopw [15, 16, 17, 18] (fun vi v16 v17 v18 wr => ∃ i : Nat, i ≤ N ∧ vi = .int .i64 (i : Int) ∧ LayR w #[.slice p1 nl p2, .slice p3 ng p4, .slice p5 N p6] w4.heap.size (.slice q1 nc q2) (.slice q5 nG q6) C G (goneL C D) wr ∧ ∀ t g, t < i → P[t]? = some g → ∀ (j : Nat) (b : UInt8), g.old[j]? = some b → byteAt C (g.at_ + j) = some b) (fun vi _ _ _ _ => N - (intOf vi).toNat)
          case atStart => exact ⟨0, Nat.zero_le _, rfl, HA.out.1, fun t g h => absurd h (Nat.not_lt_zero _)⟩
          case round =>
            obtain ⟨i, hi, rfl, hR, hok⟩ := hrel
            have z2 : wr.cell? ⟨w.heap.size, 2, none⟩ = some (.slice p5 N p6) := hR.box.cell 2
            by_cases hlt : i < N
            · obtain ⟨x, hx⟩ : ∃ x, Lp[i]? = some x := ⟨_, List.getElem?_eq_getElem (by have := H.out.2.2.2; omega)⟩
              have hpw := H.out.1.below hR.bel
              obtain ⟨gp, offp, e5, y0, y1, y2⟩ := hpw.cell hx
              subst e5
              have hg : P[i]? = some x.m := by rw [HP.out.1, List.getElem?_map, hx]; rfl
              have hxm := List.mem_of_getElem? hx
              have hgmx := HP.out.2.2.2.2.2.1 x.m (List.mem_of_getElem? hg)
              have hltz : decide ((i : Int) < (N : Int)) = true := by rw [decide_eq_true_eq]; omega
              have hltn : decide (i < N) = true := by rw [decide_eq_true_eq]; omega
              have i1 : (0 : Int) ≤ (i : Int) := by omega
              have i2 : (i : Int) < (N : Int) := by omega
              have hwi : IntKind.i64.wrap ((i : Int) + 1) = ((i + 1 : Nat) : Int) := (IntWalk.i64_in _ (by have := H.out.2.2.1; omega)).trans (by omega)
              have hbs := hpw.b1 x hxm
              obtain ⟨xa, xp1, xc1, xo, xp2, xc2, xn⟩ := x
              obtain ⟨no, hno⟩ : ∃ n, n = xo.length := ⟨_, rfl⟩
              obtain ⟨nn, hnn⟩ : ∃ n, n = xn.length := ⟨_, rfl⟩
              dsimp only [PaV.s1, PaV.s2] at y0 y1 y2 hbs
              have hgmx : xa + xo.length ≤ MAXA ∧ xn.length = xo.length := hgmx
              rw [← hno] at y1 hgmx hbs
              rw [← hnn] at y2 hgmx
              have HNO := hid hno
              have HNN := hid hnn
              have HGM := hid hgmx
              clear hno hnn hgmx
              go_upto_region 18 with fail
              obtain ⟨V8, hV8⟩ : ∃ V, V = wr.alloc (.cells #[.int .u64 (xa : Int), .slice xp1 no xc1, .slice xp2 nn xc2] 54) := ⟨_, rfl⟩
              have b8 : Below wr.heap.size wr V8 := by rw [hV8]; exact (Below.refl _ _).alloc (Nat.le_refl _) _
              have r8 : RowAt V8 wr.heap.size 54 #[.int .u64 (xa : Int), .slice xp1 no xc1, .slice xp2 nn xc2] := by rw [hV8]; exact heap_alloc_new wr _
              rw [← hV8]
              have HX := hid (And.intro (hR.below b8) (And.intro r8 (And.intro hok (And.intro hg (And.intro HGM.out (And.intro (hbs.below b8) (And.intro HNO.out (And.intro HNN.out hlt))))))))
              clear hR hok hpw hx y0 y1 y2 hg hxm hbs b8 r8 hV8 hlt hi z2
              obtain ⟨wo, hwo⟩ : ∃ W : World, W = wr := ⟨_, rfl⟩
              subst hwo
              go_wp2_with fail
              go_loopw [17, 18] (fun vj v18 wi => ∃ j : Nat, j ≤ no ∧ vj = .int .i64 (j : Int) ∧ Below V8.heap.size V8 wi ∧ ∀ t b, t < j → xo[t]? = some b → byteAt C (xa + t) = some b) (fun vj _ _ => no - (intOf vj).toNat)
              case atStart => exact ⟨0, Nat.zero_le _, rfl, Below.refl _ _, fun t b h => absurd h (Nat.not_lt_zero _)⟩
              case round =>
                obtain ⟨j, hj, rfl, hbi, hbo⟩ := hrel
                have hRi := HX.out.1.below hbi
                have r8i := RowAt.below HX.out.2.1 hbi
                have x0 : wr.cell? ⟨wo.heap.size, 0, none⟩ = some (.int .u64 (xa : Int)) := r8i.cell 0
                have x1 : wr.cell? ⟨wo.heap.size, 1, none⟩ = some (.slice xp1 no xc1) := r8i.cell 1
                have hxmx : xa + no ≤ 140737488355328 := HX.out.2.2.2.2.1.1
                by_cases hjl : j < no
                · obtain ⟨b, hb⟩ : ∃ b, xo[j]? = some b := ⟨_, List.getElem?_eq_getElem (by have := HX.out.2.2.2.2.2.2.1; omega)⟩
                  have e4 : decide ((j : Int) < (no : Int)) = true := by rw [decide_eq_true_eq]; omega
                  have e4n : decide (j < no) = true := by rw [decide_eq_true_eq]; omega
                  have e6 : IntKind.u64.wrap (j : Int) = (j : Int) := IntWalk.u64_in _ (by omega)
                  obtain ⟨A, hA⟩ : ∃ A, A = xa + j := ⟨_, rfl⟩
                  have e5 : IntKind.u64.wrap ((xa : Int) + (j : Int)) = (A : Int) := (IntWalk.u64_in _ (by omega)).trans (by omega)
                  have e7 : IntKind.i64.wrap ((j : Int) + 1) = ((j + 1 : Nat) : Int) := (IntWalk.i64_in _ (by omega)).trans (by omega)
                  have hf := br_find wr _ C A hRi.rows6 HP.out.2.2.2.1.up (by omega) (fun c hc => by have := (HP.out.2.2.2.1.ok c hc).1; unfold MAXA at this; omega) (by have := H1.out.2.2.2.2.1; have := H5.out.2.2.2.2.1; omega)
                  have i3 : (0 : Int) ≤ (j : Int) := by omega
                  have i4 : (j : Int) < (no : Int) := by omega
                  have HI := hid (And.intro hbi (And.intro hbo (And.intro hRi (And.intro r8i (And.intro hb (And.intro hjl (And.intro hA hxmx)))))))
                  have HF := hid hf
                  clear hj hbi hbo hRi r8i hxmx hjl hb hA hf
                  go_wp2_with fail
                  refine HF.out.mono ?_
                  rintro e wf ⟨z, rfl, hbf, hz⟩
                  have hRf := HI.out.2.2.1.below hbf
                  have r8f := RowAt.below HI.out.2.2.2.1 hbf
                  have x1' : wf.cell? ⟨wo.heap.size, 1, none⟩ = some (.slice xp1 no xc1) := r8f.cell 1
                  have hbsf := (HX.out.2.2.2.2.2.1).below (HI.out.1.trans (hbf.mono HI.out.1.size))
                  obtain ⟨ga, oa, exp, hcx⟩ := BS.at hbsf (by have := HX.out.2.2.2.2.2.2.1; have := HI.out.2.2.2.2.2.1; omega)
                  subst exp
                  have cb0 := hcx j b HI.out.2.2.2.2.1
                  have HFF := hid (And.intro hRf hbf)
                  have HZ := hid hz
                  clear hRf r8f hbsf hcx hbf hz x0 x1
                  rcases HZ.out with ⟨k, c, hc, hca, hzz⟩ | ⟨hzz, hnone⟩
                  · subst hzz
                    obtain ⟨g6, e6', c0, c1, c2, -⟩ := HFF.out.1.cell hc
                    subst e6'
                    have e0 : decide ((k : Int) < 0) = false := by rw [decide_eq_false_iff_not]; omega
                    have kl := (List.getElem?_eq_some_iff.1 hc).1
                    have i5 : (0 : Int) ≤ (k : Int) := by omega
                    have i6 : (k : Int) < (nc : Int) := by have := H1.out.2.2.2.2.1; omega
                    have i7 : k < nc := by have := H1.out.2.2.2.2.1; omega
                    have hbc : byteAt C A = some c.b := by rw [← hca]; exact byte_found HP.out.2.2.2.1.up hc
                    have HK := hid (And.intro hc (And.intro hca (And.intro hbc HI.out.2.2.2.2.2.2.1)))
                    clear hc hca kl hbc c0 c1
                    by_cases hcb : c.b = b
                    · have e8 : ((c.b.toNat : Int) != (b.toNat : Int)) = false := by rw [hcb]; simp
                      have Hcb := hid hcb
                      clear hcb
                      go_wp2_with fail
                      go_quiet (fail)
                      go_wp2_with fail
                      refine ⟨⟨j + 1, by have := HI.out.2.2.2.2.2.1; omega, by go_num, HI.out.1.trans ((below_drewNP HFF.out.2 _).mono HI.out.1.size), fun t b' ht hb' => ?_⟩, by simp only [intOf, Int.toNat_natCast]; have := HI.out.2.2.2.2.2.1; omega⟩
                      rcases Nat.lt_or_eq_of_le (Nat.le_of_lt_succ ht) with h | h
                      · exact HI.out.2.1 t b' h hb'
                      · subst h
                        rw [HI.out.2.2.2.2.1] at hb'
                        cases hb'
                        rw [← HK.out.2.2.2, HK.out.2.2.1, Hcb.out]
                    · have e8 : ((c.b.toNat : Int) != (b.toNat : Int)) = true := by
                        simp only [bne_iff_ne]
                        exact fun e => hcb (UInt8.toNat_inj.1 (by omega))
                      have hRf : R = (17, []) := HP.out.2.2.2.2.2.2 ⟨_, cell_in (List.mem_of_getElem? HX.out.2.2.2.1) HI.out.2.2.2.2.1, by
                        show byteAt C (xa + j) ≠ some b
                        rw [← HK.out.2.2.2, HK.out.2.2.1]
                        exact fun e => hcb (Option.some.inj e)⟩
                      subst hRf
                      clear hcb
                      go_wp2_with fail
                      go_quiet (fail)
                      go_wp2_with fail
                      refine bodyPost_ret (v := .tuple #[.slice none 0 0, .int .i64 17]) (by simp [results, Try.results19, go_sem]) rfl ?_
                      exact ⟨_, rfl, (NewOwn.nil w).below (below_drewNP HFF.out.1.bel _)⟩
                  · subst hzz
                    have hRf : R = (17, []) := HP.out.2.2.2.2.2.2 ⟨_, cell_in (List.mem_of_getElem? HX.out.2.2.2.1) HI.out.2.2.2.2.1, by
                      show byteAt C (xa + j) ≠ some b
                      rw [← HI.out.2.2.2.2.2.2.1, byteAt_none hnone]
                      exact fun e => by cases e⟩
                    subst hRf
                    clear hnone
                    go_wp2_with fail
                    go_quiet (fail)
                    go_wp2_with fail
                    refine bodyPost_ret (v := .tuple #[.slice none 0 0, .int .i64 17]) (by simp [results, Try.results19, go_sem]) rfl ?_
                    exact ⟨_, rfl, (NewOwn.nil w).below (below_drewNP HFF.out.1.bel _)⟩
                · have hjn : j = no := by omega
                  have e4 : decide ((j : Int) < (no : Int)) = false := by rw [decide_eq_false_iff_not]; omega
                  have e4n : decide (j < no) = false := by rw [decide_eq_false_iff_not]; omega
                  have HN := hid (And.intro hRi (And.intro hbo hjn))
                  clear hj hbi hbo hRi r8i hxmx hjl hjn x0
                  go_wp2_with fail
                  refine ⟨⟨i + 1, by have := HX.out.2.2.2.2.2.2.2.2; omega, by go_num, HN.out.1, fun t g ht hgt q b hb => ?_⟩, by simp only [intOf, Int.toNat_natCast]; have := HX.out.2.2.2.2.2.2.2.2; omega⟩
                  rcases Nat.lt_or_eq_of_le (Nat.le_of_lt_succ ht) with h | h
                  · exact HX.out.2.2.1 t g h hgt q b hb
                  · subst h
                    rw [HX.out.2.2.2.1] at hgt
                    cases hgt
                    exact HN.out.2.1 q b (by rw [HN.out.2.2, HX.out.2.2.2.2.2.2.1]; exact (List.getElem?_eq_some_iff.1 hb).1) hb
            · have hiN : i = N := by omega
              have hltz : decide ((i : Int) < (N : Int)) = false := by rw [decide_eq_false_iff_not]; omega
              have hltn : decide (i < N) = false := by rw [decide_eq_false_iff_not]; omega
              have hothC : othC C (cellsZ (P.map oldM)) = false := by
                rw [← Bool.not_eq_true, othC_iff]
                rintro ⟨c, hc, hn⟩
                obtain ⟨p, hp, hcp⟩ := List.mem_flatMap.1 hc
                obtain ⟨g, hg, rfl⟩ := List.mem_map.1 hp
                obtain ⟨t, ht⟩ := List.getElem?_of_mem hg
                obtain ⟨h1, h2, h3⟩ := mem_cellsAt_iff.1 hcp
                have h1 : g.at_ ≤ c.at_ := h1
                have h3 : g.old[c.at_ - g.at_]? = some c.b := h3
                have := hok t g (by have := (List.getElem?_eq_some_iff.1 ht).1; have := HP.out.2.1; omega) ht _ _ h3
                rw [show g.at_ + (c.at_ - g.at_) = c.at_ by omega] at this
                exact hn this
              have HB := hid (And.intro hR hothC)
              clear hR hok hlt hi hiN hothC
              go_wp2_with fail
              go_loopw [19, 20, 21] (fun vi v20 v21 wr => ∃ i : Nat, i ≤ N ∧ vi = .int .i64 (i : Int) ∧ LayR w #[.slice p1 nl p2, .slice p3 ng p4, .slice p5 N p6] w4.heap.size (.slice q1 nc q2) (.slice q5 nG q6) (patC C (cellsZ ((P.take i).map newM))) G (goneL C D) wr) (fun vi _ _ _ => N - (intOf vi).toNat)
              case atStart => exact ⟨0, Nat.zero_le _, rfl, by rw [List.take_zero, show cellsZ (([] : List Gz).map newM) = [] from rfl, pat_nil]; exact HB.out.1⟩
              case round =>
                obtain ⟨i, hi, rfl, hR⟩ := hrel
                have z2 : wr.cell? ⟨w.heap.size, 2, none⟩ = some (.slice p5 N p6) := hR.box.cell 2
                by_cases hlt : i < N
                · obtain ⟨x, hx⟩ : ∃ x, Lp[i]? = some x := ⟨_, List.getElem?_eq_getElem (by have := H.out.2.2.2; omega)⟩
                  have hpw := H.out.1.below hR.bel
                  obtain ⟨gp, offp, e5, y0, y1, y2⟩ := hpw.cell hx
                  subst e5
                  have hg : P[i]? = some x.m := by rw [HP.out.1, List.getElem?_map, hx]; rfl
                  have hxm := List.mem_of_getElem? hx
                  have hgmx := HP.out.2.2.2.2.2.1 x.m (List.mem_of_getElem? hg)
                  have hltz : decide ((i : Int) < (N : Int)) = true := by rw [decide_eq_true_eq]; omega
                  have hltn : decide (i < N) = true := by rw [decide_eq_true_eq]; omega
                  have i1 : (0 : Int) ≤ (i : Int) := by omega
                  have i2 : (i : Int) < (N : Int) := by omega
                  have hwi : IntKind.i64.wrap ((i : Int) + 1) = ((i + 1 : Nat) : Int) := (IntWalk.i64_in _ (by have := H.out.2.2.1; omega)).trans (by omega)
                  have hbs := H.out.1.b2 x hxm
                  have hg6 : ∀ k, (Value.slice q1 nc q2).ownBlock = some k → k < wr.heap.size := fun k hk => (World.ownsRow.lt hR.cells k hk).2
                  obtain ⟨xa, xp1, xc1, xo, xp2, xc2, xn⟩ := x
                  obtain ⟨no, hno⟩ : ∃ n, n = xo.length := ⟨_, rfl⟩
                  obtain ⟨nn, hnn⟩ : ∃ n, n = xn.length := ⟨_, rfl⟩
                  dsimp only [PaV.s1, PaV.s2] at y0 y1 y2 hbs
                  have hgmx : xa + xo.length ≤ MAXA ∧ xn.length = xo.length := hgmx
                  rw [← hno] at y1 hgmx
                  rw [← hnn] at y2 hgmx hbs
                  have HNO := hid hno
                  have HNN := hid hnn
                  have HGM := hid hgmx
                  clear hno hnn hgmx
                  go_upto_region 28 with fail
                  obtain ⟨V8, hV8⟩ : ∃ V, V = wr.alloc (.cells #[.int .u64 (xa : Int), .slice xp1 no xc1, .slice xp2 nn xc2] 54) := ⟨_, rfl⟩
                  have b8 : Below wr.heap.size wr V8 := by rw [hV8]; exact (Below.refl _ _).alloc (Nat.le_refl _) _
                  have r8 : RowAt V8 wr.heap.size 54 #[.int .u64 (xa : Int), .slice xp1 no xc1, .slice xp2 nn xc2] := by rw [hV8]; exact heap_alloc_new wr _
                  rw [← hV8]
                  have HX := hid (And.intro (hR.below b8) (And.intro r8 (And.intro hg (And.intro HGM.out (And.intro hbs (And.intro HNO.out (And.intro HNN.out (And.intro hlt hg6))))))))
                  clear hR hpw hx y0 y1 y2 hg hxm hbs b8 r8 hV8 hlt hi z2 hg6
                  obtain ⟨wo, hwo⟩ : ∃ W : World, W = wr := ⟨_, rfl⟩
                  subst hwo
                  go_wp2_with fail
                  go_loopw [21] (fun vj wi => ∃ j : Nat, j ≤ nn ∧ vj = .int .i64 (j : Int) ∧ LayR w #[.slice p1 nl p2, .slice p3 ng p4, .slice (some ⟨gp, offp, none⟩) N p6] w4.heap.size (.slice q1 nc q2) (.slice q5 nG q6) (patC C (cellsZ ((P.take i).map newM) ++ cellsAt 1 xa (xn.take j))) G (goneL C D) wi ∧ RowAt wi wo.heap.size 54 #[.int .u64 (xa : Int), .slice xp1 no xc1, .slice xp2 nn xc2]) (fun vj _ => nn - (intOf vj).toNat)
                  case atStart => exact ⟨0, Nat.zero_le _, rfl, by rw [List.take_zero]; show LayR w _ _ _ _ (patC C (_ ++ [])) _ _ _; rw [List.append_nil]; exact HX.out.1, HX.out.2.1⟩
                  case round =>
                    obtain ⟨j, hj, rfl, hRi, r8i⟩ := hrel
                    have x0 : wr.cell? ⟨wo.heap.size, 0, none⟩ = some (.int .u64 (xa : Int)) := r8i.cell 0
                    have x2 : wr.cell? ⟨wo.heap.size, 2, none⟩ = some (.slice xp2 nn xc2) := r8i.cell 2
                    have hxmx : xa + no ≤ 140737488355328 := HX.out.2.2.2.1.1
                    have hnnno : nn = no := HX.out.2.2.2.1.2
                    by_cases hjl : j < nn
                    · obtain ⟨b, hb⟩ : ∃ b, xn[j]? = some b := ⟨_, List.getElem?_eq_getElem (by have := HX.out.2.2.2.2.2.2.1; omega)⟩
                      obtain ⟨ob, hob⟩ : ∃ b, xo[j]? = some b := ⟨_, List.getElem?_eq_getElem (by have := HX.out.2.2.2.2.2.1; omega)⟩
                      obtain ⟨A, hA⟩ : ∃ A, A = xa + j := ⟨_, rfl⟩
                      have hbyte : byteAt C A = some ob := Classical.byContradiction (fun hne => by
                        have : othC C (cellsZ (P.map oldM)) = true := othC_iff.2 ⟨_, cell_in (List.mem_of_getElem? HX.out.2.2.1) hob, by show byteAt C (xa + j) ≠ some ob; rw [← hA]; exact hne⟩
                        rw [HB.out.2] at this; cases this)
                      obtain ⟨c0, hc0, hca0, -⟩ := (byteAt_some HP.out.2.2.2.1.up).1 hbyte
                      obtain ⟨k, hk0⟩ := List.getElem?_of_mem hc0
                      obtain ⟨N', hN'⟩ : ∃ N', N' = cellsZ ((P.take i).map newM) ++ cellsAt 1 xa (xn.take j) := ⟨_, rfl⟩
                      rw [← hN'] at hRi
                      obtain ⟨c, hk, hca⟩ : ∃ c, (patC C N')[k]? = some c ∧ c.at_ = A := ⟨⟨c0.at_, c0.prot, (byteAt N' c0.at_).getD c0.b⟩, by unfold patC; rw [List.getElem?_map, hk0]; rfl, hca0⟩
                      have hpre : ∀ c ∈ N', c.at_ ≠ A := by rw [hN', hA]; exact new_prefix HP.out.2.2.1.2.1 HX.out.2.2.1 hb
                      have hsn : patC C (N' ++ [⟨A, 1, b⟩]) = (patC C N').set k ⟨c.at_, c.prot, b⟩ := pat_snoc HP.out.2.2.2.1.up hpre hk hca
                      have hN2 : N' ++ [⟨A, 1, b⟩] = cellsZ ((P.take i).map newM) ++ cellsAt 1 xa (xn.take (j + 1)) := by rw [hN', cellsAt_snoc 1 xa hb, ← hA, List.append_assoc]
                      obtain ⟨g6, e6', -, -, c2, f2⟩ := hRi.cell hk
                      subst e6'
                      have hokN : OkC (patC C N') := okC_pat HP.out.2.2.2.1
                      have hlN : (patC C N').length = nc := by rw [patC_len]; exact H1.out.2.2.2.2.1.symm
                      have kl := (List.getElem?_eq_some_iff.1 hk).1
                      have hfk := hid (fun (W : World) (hb : Below wr.heap.size wr W) => (br_find W _ (patC C N') A ((hRi.below hb).rows6) hokN.up (by omega) (fun c hc => by have := (hokN.ok c hc).1; unfold MAXA at this; omega) (by have := H5.out.2.2.2.2.1; omega)).mono (fun e w' (h : ∃ z, e = .returned (.int .i64 z) ∧ Below W.heap.size W w' ∧ FoundZ (patC C N') A z) => (show e = .returned (.int .i64 (k : Int)) ∧ Below W.heap.size W w' by
                        obtain ⟨z, h1, h2, h3⟩ := h
                        exact ⟨by rw [h1, found_k hokN.up h3 hk hca], h2⟩)))
                      have hbsw := HX.out.2.2.2.2.1.below hRi.bel
                      obtain ⟨gn, on, exp, hcx⟩ := BS.at hbsw (by have := HX.out.2.2.2.2.2.2.1; omega)
                      subst exp
                      have hcb := hcx j b hb
                      have e4 : decide ((j : Int) < (nn : Int)) = true := by rw [decide_eq_true_eq]; omega
                      have e4n : decide (j < nn) = true := by rw [decide_eq_true_eq]; omega
                      have e6 : IntKind.u64.wrap (j : Int) = (j : Int) := IntWalk.u64_in _ (by omega)
                      have e5 : IntKind.u64.wrap ((xa : Int) + (j : Int)) = (A : Int) := (IntWalk.u64_in _ (by omega)).trans (by omega)
                      have e7 : IntKind.i64.wrap ((j : Int) + 1) = ((j + 1 : Nat) : Int) := (IntWalk.i64_in _ (by omega)).trans (by omega)
                      have i3 : (0 : Int) ≤ (j : Int) := by omega
                      have i4 : (j : Int) < (nn : Int) := by omega
                      have i5 : (0 : Int) ≤ (k : Int) := by omega
                      have i6 : (k : Int) < (nc : Int) := by omega
                      have i7 : k < nc := by omega
                      have hi : CpyV wr wr.drew wo.heap.size xa nn gn on xc2 j b := CpyV.below (W := wr) ⟨Below.refl _ _, x0, x2, hcb⟩ (below_drewP wr)
                      have hgn6 : gn ≠ g6 := fun e => by
                        have h1 := HX.out.2.2.2.2.1.blt gn ⟨by omega, rfl⟩
                        have h2 := (World.ownsRow.lt hRi.cells g6 rfl).1
                        omega
                      have hg6l : g6 < wr.heap.size := (World.ownsRow.lt hRi.cells g6 rfl).2
                      have hg6o : g6 ≠ wo.heap.size := fun e => by have := HX.out.2.2.2.2.2.2.2.2 g6 rfl; omega
                      have HI := hid (And.intro hRi (And.intro r8i (And.intro hk (And.intro hca (And.intro hsn (And.intro hN2 (And.intro hjl (And.intro hg6l (And.intro hg6o hgn6)))))))))
                      clear hgn6 hj hRi r8i hxmx hnnno hjl hob hbyte hc0 hca0 hk0 hN' hk hca hpre hsn hN2 hokN hlN kl hbsw hcx hcb hA hb c2 f2 hg6l hg6o
                      go_upto_region 31 with fail
                      clear x0 x2
                      go_region_held (fun W => W.cell? ⟨wo.heap.size, 0, none⟩ = some (.int .u64 (xa : Int)) ∧ W.cell? ⟨wo.heap.size, 2, none⟩ = some (.slice (some ⟨gn, on, none⟩) nn xc2) ∧ W.cell? ⟨gn, on + j, none⟩ = some (.int .u8 (b.toNat : Int))) (first | exact ⟨hi.c0, hi.c2, hi.cb⟩ | exact ⟨set_other (Ne.symm HI.out.2.2.2.2.2.2.2.2.1) hi.c0, set_other (Ne.symm HI.out.2.2.2.2.2.2.2.2.1) hi.c2, set_other HI.out.2.2.2.2.2.2.2.2.2 hi.cb⟩)
                        (first
                          | (go_at_call 32; (with_reducible refine (hfk.out _ hi.bel).mono ?_); rintro e wf ⟨rfl, hbf⟩; have hbg := Below.trans (below_drewP wr) hbf; have hi := hi.below hbf; obtain ⟨g6', eg, -, -, cf, ff⟩ := LayR.cell (LayR.below HI.out.1 hbg) HI.out.2.2.1; cases eg; clear hbf)
                          | fail "no call")
                      all_goals
                        have HE := hid hbg
                        clear hbg hi cf ff
                        go_wp2_with fail
                        refine ⟨⟨j + 1, by have := HI.out.2.2.2.2.2.2.1; omega, by go_num, ?_, ?_⟩, by simp only [intOf, Int.toNat_natCast]; have := HI.out.2.2.2.2.2.2.1; omega⟩
                        · rw [← HI.out.2.2.2.2.2.1, HI.out.2.2.2.2.1]
                          exact (HI.out.1.below HE.out).byte HI.out.2.2.1
                        · exact (heap_setCell_other _ _ _ _ (Ne.symm HI.out.2.2.2.2.2.2.2.2.1)).trans (RowAt.below HI.out.2.1 HE.out)
                    · have hjn : j = nn := by omega
                      have e4 : decide ((j : Int) < (nn : Int)) = false := by rw [decide_eq_false_iff_not]; omega
                      have e4n : decide (j < nn) = false := by rw [decide_eq_false_iff_not]; omega
                      rw [hjn, HX.out.2.2.2.2.2.2.1, List.take_length] at hRi
                      have hns := new_step HX.out.2.2.1
                      rw [← show cellsZ ((P.take (i + 1)).map newM) = cellsZ ((P.take i).map newM) ++ cellsAt 1 xa xn from hns] at hRi
                      have HN := hid hRi
                      clear hj hRi r8i hxmx hnnno hjl hjn hns x0
                      go_wp2_with fail
                      exact ⟨⟨i + 1, by have := HX.out.2.2.2.2.2.2.2.1; omega, by go_num, HN.out⟩, by simp only [intOf, Int.toNat_natCast]; have := HX.out.2.2.2.2.2.2.2.1; omega⟩
                · have hiN : i = N := by omega
                  have hltz : decide ((i : Int) < (N : Int)) = false := by rw [decide_eq_false_iff_not]; omega
                  have hltn : decide (i < N) = false := by rw [decide_eq_false_iff_not]; omega
                  rw [hiN, ← HP.out.2.1, List.take_length] at hR
                  obtain ⟨C2, hC2⟩ : ∃ C2, C2 = patC C (cellsZ (P.map newM)) := ⟨_, rfl⟩
                  rw [← hC2] at hR
                  have HD := hid (And.intro hR hC2)
                  clear hR hlt hi hiN hC2
                  have hokC2 : OkC C2 := by rw [HD.out.2]; exact okC_pat HP.out.2.2.2.1
                  have hlC2 : C2.length = nc := by rw [HD.out.2, patC_len]; exact H1.out.2.2.2.2.1.symm
                  have hokG : OkC G := by rw [H5.out.2.2.1]; exact okC_of HM.out.2.2.1
                  have hlG : G.length = nG := H5.out.2.2.2.1.symm
                  have hnG : nG ≤ 90000 := by have h1 := HC.out.2.2; rw [← H5.out.2.2.1] at h1; omega
                  have hflag : ∀ (i : Nat) (c : Cz), C2[i]? = some c → (goneL C D)[i]? = some (goneC D c) := fun i c hc => by
                    rw [HD.out.2] at hc
                    unfold patC at hc
                    rw [List.getElem?_map] at hc
                    obtain ⟨c', h1, h2⟩ := Option.map_eq_some_iff.1 hc
                    unfold goneL
                    rw [List.getElem?_map, h1, ← h2]
                    rfl
                  have hfin : ∀ out, (meetC (C2.filter (fun c => !goneC D c)) G = true → R = (21, [])) ∧ (meetC (C2.filter (fun c => !goneC D c)) G = false → out = mergeC (C2.filter (fun c => !goneC D c)) G → R = (0, piecesZ out) ∧ OkC out) := fun out => by
                    have e1 : C2.filter (fun c => !goneC D c) = patC (minusC C D) (cellsZ (P.map newM)) := by rw [HD.out.2, pat_filter, minus_gone HP.out.2.2.2.2.1]
                    have m1 : missC (cellsZ (L.map PzV.m)) (cellsZ (rzV Ll Lg Lp).lost) = false := by show missC _ (cellsZ (Ll.map PzV.m)) = false; rw [← H1.out.2.2.2.1, ← H3.out.2.2.2.2.1]; exact HA.out.2
                    have m2 : othC (minusC (cellsZ (L.map PzV.m)) (cellsZ (rzV Ll Lg Lp).lost)) (cellsZ ((rzV Ll Lg Lp).patches.map oldM)) = false := by
                      rw [oth_minus HM.out.2.2.2.2.2.2.1]
                      show othC (cellsZ (L.map PzV.m)) (cellsZ ((Lp.map PaV.m).map oldM)) = false
                      rw [← H1.out.2.2.2.1, ← HP.out.1]; exact HB.out.2
                    have e2 : minusC (cellsZ (L.map PzV.m)) (cellsZ (rzV Ll Lg Lp).lost) = minusC C D := by rw [H1.out.2.2.2.1, H3.out.2.2.2.2.1]; rfl
                    have e3 : cellsZ (rzV Ll Lg Lp).gained = G := H5.out.2.2.1.symm
                    have e4 : cellsZ ((rzV Ll Lg Lp).patches.map newM) = cellsZ (P.map newM) := by rw [HP.out.1]; rfl
                    rw [e1, meet_pat]
                    constructor
                    · intro hm
                      have e0 : layOf (L.map PzV.m) (rzV Ll Lg Lp) = (21, []) := layC_meet m1 m2 (by rw [e2, e3]; exact hm)
                      rw [HM.out.1, e0]; rfl
                    · intro hm ho
                      have e0 : layOf (L.map PzV.m) (rzV Ll Lg Lp) = (0, mergeC (patC (minusC C D) (cellsZ (P.map newM))) G) := by
                        unfold layOf
                        rw [layC_ok m1 m2 (by rw [e2, e3]; exact hm), e2, e3, e4]
                      rw [HM.out.1, e0, ho]
                      exact ⟨rfl, okC_merge (okC_pat (okC_minus HP.out.2.2.2.1)) hokG (by rw [meet_pat]; exact hm)⟩
                  have HQ := hid (And.intro hokC2 (And.intro hlC2 (And.intro hokG (And.intro hlG (And.intro hnG (And.intro hflag hfin))))))
                  clear hokC2 hlC2 hokG hlG hnG hflag hfin
                  obtain ⟨W9, hW9⟩ : ∃ W : World, W = wr := ⟨_, rfl⟩
                  subst hW9
                  obtain ⟨ic, hic, hcz, hcs, hcb⟩ := info_parts infoC1
                  have HI := hid (And.intro hic (And.intro hcz (And.intro hcs hcb)))
                  clear hic hcz hcs hcb
                  go_wp2_with fail
                  go_loopw [22, 23, 24] (fun vo vk vi wr => ∃ (i k : Nat) (out : List Cz), vi = .int .i64 (i : Int) ∧ vk = .int .i64 (k : Int) ∧ MgI C2 G (fun c => !goneC D c) i k out ∧ Below W9.heap.size W9 wr ∧ wr.ownsRow W9.heap.size 63 3 vo out.length (out.flatMap czC)) (fun _ vk vi _ => (nc + nG) - ((intOf vi).toNat + (intOf vk).toNat))
                  case atStart => exact ⟨0, 0, [], rfl, rfl, mg_start _ _ _, Below.refl _ _, World.ownsRow_nil _ _ _ _⟩
                  case round =>
                    obtain ⟨i, k, out, rfl, rfl, hmg, hb, ho⟩ := hrel
                    obtain ⟨u1, u2, u3, rfl⟩ := own_form ho
                    have hRr := HD.out.1.below hb
                    have hlC := HQ.out.2.1
                    have hlG := HQ.out.2.2.2.1
                    have hnc := H5.out.2.2.2.2.1
                    have hnG := HQ.out.2.2.2.2.1
                    have li := hmg.li
                    have lk := hmg.lk
                    have i1 : (0 : Int) ≤ (i : Int) := by omega
                    have i2 : (0 : Int) ≤ (k : Int) := by omega
                    have hwi : IntKind.i64.wrap ((i : Int) + 1) = ((i + 1 : Nat) : Int) := (IntWalk.i64_in _ (by omega)).trans (by omega)
                    have hwk : IntKind.i64.wrap ((k : Int) + 1) = ((k + 1 : Nat) : Int) := (IntWalk.i64_in _ (by omega)).trans (by omega)
                    by_cases hic : i < nc
                    · obtain ⟨c, hc⟩ : ∃ c, C2[i]? = some c := ⟨_, List.getElem?_eq_getElem (by omega)⟩
                      obtain ⟨g6, e6', c0, c1, c2, -⟩ := hRr.cell hc
                      subst e6'
                      have hfl := (hRr.flag (HQ.out.2.2.2.2.2.1 i c hc)).1
                      have e1 : decide ((i : Int) < (nc : Int)) = true := by rw [decide_eq_true_eq]; omega
                      have e1n : decide (i < nc) = true := by rw [decide_eq_true_eq]; omega
                      have i3 : (i : Int) < (nc : Int) := by omega
                      cases hgc : goneC D c with
                      | true =>
                        rw [hgc] at hfl
                        have hmg2 := hmg.skip hc (by simp [hgc])
                        have HN := hid (And.intro hmg2 (And.intro hb (And.intro ho (And.intro hic lk))))
                        have HL := hid (And.intro hlC (And.intro hlG (And.intro hnc hnG)))
                        clear hmg hb ho hRr hlC hlG hnc hnG li lk hic hc hgc hmg2 c0 c1 c2
                        go_wp2_with fail
                        exact ⟨⟨i + 1, k, out, by go_num, rfl, HN.out.1, HN.out.2.1, HN.out.2.2.1⟩, by simp only [intOf, Int.toNat_natCast]; have h1 := HN.out.2.2.2.1; have h2 := HN.out.2.2.2.2; have h3 := HL.out.2.1; omega⟩
                      | false =>
                        rw [hgc] at hfl
                        have hnf : (!goneC D c) = true := by rw [hgc]; rfl
                        by_cases hk : k < nG
                        · obtain ⟨d, hd⟩ : ∃ d, G[k]? = some d := ⟨_, List.getElem?_eq_getElem (by omega)⟩
                          obtain ⟨gd, ed', d0, d1, d2⟩ := hRr.gcell hd
                          subst ed'
                          have e2 : ((k : Int) == (nG : Int)) = false := by simp only [beq_eq_false_iff_ne]; omega
                          have i4 : (k : Int) < (nG : Int) := by omega
                          have hoc := hmg.lo
                          rcases Nat.lt_trichotomy c.at_ d.at_ with hlt | heq | hgt
                          · have e3 : decide ((c.at_ : Int) < (d.at_ : Int)) = true := by rw [decide_eq_true_eq]; omega
                            have e3n : decide (c.at_ < d.at_) = true := by rw [decide_eq_true_eq]; omega
                            have hmg2 := hmg.takeC HQ.out.1.up HQ.out.2.2.1.up hc hnf (.inr ⟨d, hd, hlt⟩)
                            have HN := hid (And.intro hmg2 (And.intro hb (And.intro ho (And.intro hic (And.intro hk trivial)))))
                            have HL := hid (And.intro hlC (And.intro hlG (And.intro hRr (And.intro (And.intro hc hd) (show out.length ≤ 180000 by omega)))))
                            clear hmg hb ho hRr hlC hlG hnc hnG li lk hic hc hgc hmg2 hk hd hlt hnf hoc
                            go_wp2_with fail
                            go_quiet (fail)
                            generalize hW5 : World.drewN wr _ = W5
                            have hb5 : Below wr.heap.size wr W5 := by rw [← hW5]; exact below_drewNP (Below.refl _ _) _
                            obtain ⟨gx, exx, x0, x1, x2, -⟩ := (HL.out.2.2.1.below hb5).cell HL.out.2.2.2.1.1
                            cases exx
                            have ho5 := ownsRow_below HN.out.2.2.1 hb5
                            have hbl5 := HN.out.2.1.trans (hb5.mono HN.out.2.1.size)
                            have H5b := hid (And.intro ho5 hbl5)
                            clear hW5 hb5 ho5 hbl5
                            go_wp2_with (at_builtin; refine wpList_append_grew _ rfl _ _ _ _ rfl W9.heap.size 63 ic _ 3 24 Try.underlying34 HI.out.1 HI.out.2.1 HI.out.2.2.1 HI.out.2.2.2 rfl (.slice u1 u2 u3) out.length (out.flatMap czC) rfl (ownsRow_below H5b.out.1 ((Below.refl _ _).alloc (Nat.le_refl _) _)) _ 1 [.int .u64 (c.at_ : Int), .int .i64 c.prot, .int .u8 (c.b.toNat : Int)] rfl (Src.laid _ Try.underlying34 [.int .u64 (c.at_ : Int), .int .i64 c.prot, .int .u8 (c.b.toNat : Int)] 1 rfl (by simp [Value.oneCell']) (0, 0) (by simp)) (Nat.le_trans (show out.length + 1 ≤ 200001 by have := HL.out.2.2.2.2; omega) (by decide)) (by have := HL.out.2.2.2.2; omega) (by have := H5b.out.2.size; simp; omega) ?_)
                            intro v6 W6 ho6 hg6
                            have hg6 := Grew.under ((Below.refl _ _).alloc (Nat.le_refl _) _ : Below W5.heap.size W5 _) hg6
                            obtain ⟨r1, r2, r3, rfl⟩ := own_form ho6
                            have hbl6 := bel_grewG H5b.out.2 H5b.out.1 hg6
                            have hfm : (out ++ [c]).flatMap czC = out.flatMap czC ++ czC c := by rw [List.flatMap_append]; simp
                            have H6 := hid (And.intro hbl6 (show W6.ownsRow W9.heap.size 63 3 (.slice r1 r2 r3) (out ++ [c]).length ((out ++ [c]).flatMap czC) by rw [hfm, List.length_append]; exact ho6))
                            clear ho6 hg6 hbl6 hfm x0 x1 x2
                            go_wp2_with fail
                            exact ⟨⟨i + 1, k, out ++ [c], by go_num, rfl, HN.out.1, H6.out.1, H6.out.2⟩, by simp only [intOf, Int.toNat_natCast]; have h1 := HN.out.2.2.2; have h2 := HL.out.1; have h3 := HL.out.2.1; omega⟩
                          · have hRf : R = (21, []) := (HQ.out.2.2.2.2.2.2 out).1 (hmg.twice hc hnf hd heq)
                            subst hRf
                            have e3 : decide ((c.at_ : Int) < (d.at_ : Int)) = false := by rw [decide_eq_false_iff_not]; omega
                            have e3n : decide (c.at_ < d.at_) = false := by rw [decide_eq_false_iff_not]; omega
                            have e4 : ((c.at_ : Int) == (d.at_ : Int)) = true := by rw [beq_iff_eq]; omega
                            have e4n : (c.at_ == d.at_) = true := by rw [beq_iff_eq]; omega
                            have HN := hid (HD.out.1.bel.trans (hb.mono HD.out.1.bel.size))
                            clear hmg hb ho hRr hlC hlG hnc hnG li lk hic hc hgc hk hd heq hnf hoc c1 c2 d1 d2
                            go_wp2_with fail
                            go_quiet (fail)
                            go_wp2_with fail
                            go_quiet (fail)
                            go_wp2_with fail
                            refine bodyPost_ret (v := .tuple #[.slice none 0 0, .int .i64 21]) (by simp [results, Try.results19, go_sem]) rfl ?_
                            exact ⟨_, rfl, (NewOwn.nil w).below (below_drewNP (below_drewNP HN.out _) _)⟩
                          · have e3 : decide ((c.at_ : Int) < (d.at_ : Int)) = false := by rw [decide_eq_false_iff_not]; omega
                            have e3n : decide (c.at_ < d.at_) = false := by rw [decide_eq_false_iff_not]; omega
                            have e4 : ((c.at_ : Int) == (d.at_ : Int)) = false := by simp only [beq_eq_false_iff_ne]; omega
                            have e4n : (c.at_ == d.at_) = false := by simp only [beq_eq_false_iff_ne]; omega
                            have hmg2 := hmg.takeG HQ.out.1.up HQ.out.2.2.1.up hd (.inr ⟨c, hc, hnf, hgt⟩)
                            have HN := hid (And.intro hmg2 (And.intro hb (And.intro ho (And.intro hic (And.intro hk trivial)))))
                            have HL := hid (And.intro hlC (And.intro hlG (And.intro hRr (And.intro hd (show out.length ≤ 180000 by omega)))))
                            clear hmg hb ho hRr hlC hlG hnc hnG li lk hic hc hgc hmg2 hk hd hgt hnf hoc
                            go_wp2_with fail
                            go_quiet (fail)
                            go_wp2_with fail
                            go_quiet (fail)
                            generalize hW5 : World.drewN (World.drewN wr _) _ = W5
                            have hb5 : Below wr.heap.size wr W5 := by rw [← hW5]; exact below_drewNP (below_drewNP (Below.refl _ _) _) _
                            obtain ⟨gx, exx, x0, x1, x2⟩ := (HL.out.2.2.1.below hb5).gcell HL.out.2.2.2.1
                            cases exx
                            have ho5 := ownsRow_below HN.out.2.2.1 hb5
                            have hbl5 := HN.out.2.1.trans (hb5.mono HN.out.2.1.size)
                            have H5b := hid (And.intro ho5 hbl5)
                            clear hW5 hb5 ho5 hbl5
                            go_wp2_with (at_builtin; refine wpList_append_grew _ rfl _ _ _ _ rfl W9.heap.size 63 ic _ 3 24 Try.underlying34 HI.out.1 HI.out.2.1 HI.out.2.2.1 HI.out.2.2.2 rfl (.slice u1 u2 u3) out.length (out.flatMap czC) rfl (ownsRow_below H5b.out.1 ((Below.refl _ _).alloc (Nat.le_refl _) _)) _ 1 [.int .u64 (d.at_ : Int), .int .i64 d.prot, .int .u8 (d.b.toNat : Int)] rfl (Src.laid _ Try.underlying34 [.int .u64 (d.at_ : Int), .int .i64 d.prot, .int .u8 (d.b.toNat : Int)] 1 rfl (by simp [Value.oneCell']) (0, 0) (by simp)) (Nat.le_trans (show out.length + 1 ≤ 200001 by have := HL.out.2.2.2.2; omega) (by decide)) (by have := HL.out.2.2.2.2; omega) (by have := H5b.out.2.size; simp; omega) ?_)
                            intro v6 W6 ho6 hg6
                            have hg6 := Grew.under ((Below.refl _ _).alloc (Nat.le_refl _) _ : Below W5.heap.size W5 _) hg6
                            obtain ⟨r1, r2, r3, rfl⟩ := own_form ho6
                            have hbl6 := bel_grewG H5b.out.2 H5b.out.1 hg6
                            have hfm : (out ++ [d]).flatMap czC = out.flatMap czC ++ czC d := by rw [List.flatMap_append]; simp
                            have H6 := hid (And.intro hbl6 (show W6.ownsRow W9.heap.size 63 3 (.slice r1 r2 r3) (out ++ [d]).length ((out ++ [d]).flatMap czC) by rw [hfm, List.length_append]; exact ho6))
                            clear ho6 hg6 hbl6 hfm x0 x1 x2
                            go_wp2_with fail
                            exact ⟨⟨i, k + 1, out ++ [d], rfl, by go_num, HN.out.1, H6.out.1, H6.out.2⟩, by simp only [intOf, Int.toNat_natCast]; have h1 := HN.out.2.2.2; have h2 := HL.out.1; have h3 := HL.out.2.1; omega⟩
                        · have hkn : k = nG := by omega
                          have e2 : ((k : Int) == (nG : Int)) = true := by rw [beq_iff_eq]; omega
                          have hoc := hmg.lo
                          have hmg2 := hmg.takeC HQ.out.1.up HQ.out.2.2.1.up hc hnf (.inl (by omega))
                          have HN := hid (And.intro hmg2 (And.intro hb (And.intro ho (And.intro hic (And.intro (show k ≤ nG by omega) trivial)))))
                          have HL := hid (And.intro hlC (And.intro hlG (And.intro hRr (And.intro (And.intro hc trivial) (show out.length ≤ 180000 by omega)))))
                          clear hmg hb ho hRr hlC hlG hnc hnG li lk hic hc hgc hmg2 hk hkn hnf hoc
                          go_wp2_with fail
                          go_quiet (fail)
                          generalize hW5 : World.drewN wr _ = W5
                          have hb5 : Below wr.heap.size wr W5 := by rw [← hW5]; exact below_drewNP (Below.refl _ _) _
                          obtain ⟨gx, exx, x0, x1, x2, -⟩ := (HL.out.2.2.1.below hb5).cell HL.out.2.2.2.1.1
                          cases exx
                          have ho5 := ownsRow_below HN.out.2.2.1 hb5
                          have hbl5 := HN.out.2.1.trans (hb5.mono HN.out.2.1.size)
                          have H5b := hid (And.intro ho5 hbl5)
                          clear hW5 hb5 ho5 hbl5
                          go_wp2_with (at_builtin; refine wpList_append_grew _ rfl _ _ _ _ rfl W9.heap.size 63 ic _ 3 24 Try.underlying34 HI.out.1 HI.out.2.1 HI.out.2.2.1 HI.out.2.2.2 rfl (.slice u1 u2 u3) out.length (out.flatMap czC) rfl (ownsRow_below H5b.out.1 ((Below.refl _ _).alloc (Nat.le_refl _) _)) _ 1 [.int .u64 (c.at_ : Int), .int .i64 c.prot, .int .u8 (c.b.toNat : Int)] rfl (Src.laid _ Try.underlying34 [.int .u64 (c.at_ : Int), .int .i64 c.prot, .int .u8 (c.b.toNat : Int)] 1 rfl (by simp [Value.oneCell']) (0, 0) (by simp)) (Nat.le_trans (show out.length + 1 ≤ 200001 by have := HL.out.2.2.2.2; omega) (by decide)) (by have := HL.out.2.2.2.2; omega) (by have := H5b.out.2.size; simp; omega) ?_)
                          intro v6 W6 ho6 hg6
                          have hg6 := Grew.under ((Below.refl _ _).alloc (Nat.le_refl _) _ : Below W5.heap.size W5 _) hg6
                          obtain ⟨r1, r2, r3, rfl⟩ := own_form ho6
                          have hbl6 := bel_grewG H5b.out.2 H5b.out.1 hg6
                          have hfm : (out ++ [c]).flatMap czC = out.flatMap czC ++ czC c := by rw [List.flatMap_append]; simp
                          have H6 := hid (And.intro hbl6 (show W6.ownsRow W9.heap.size 63 3 (.slice r1 r2 r3) (out ++ [c]).length ((out ++ [c]).flatMap czC) by rw [hfm, List.length_append]; exact ho6))
                          clear ho6 hg6 hbl6 hfm x0 x1 x2
                          go_wp2_with fail
                          exact ⟨⟨i + 1, k, out ++ [c], by go_num, rfl, HN.out.1, H6.out.1, H6.out.2⟩, by simp only [intOf, Int.toNat_natCast]; have h1 := HN.out.2.2.2; have h2 := HL.out.1; have h3 := HL.out.2.1; omega⟩
                    · have e1 : decide ((i : Int) < (nc : Int)) = false := by rw [decide_eq_false_iff_not]; omega
                      have e1n : decide (i < nc) = false := by rw [decide_eq_false_iff_not]; omega
                      by_cases hk : k < nG
                      · obtain ⟨d, hd⟩ : ∃ d, G[k]? = some d := ⟨_, List.getElem?_eq_getElem (by omega)⟩
                        obtain ⟨gd, ed', d0, d1, d2⟩ := hRr.gcell hd
                        subst ed'
                        have e2 : ((k : Int) == (nG : Int)) = false := by simp only [beq_eq_false_iff_ne]; omega
                        have e5 : decide ((k : Int) < (nG : Int)) = true := by rw [decide_eq_true_eq]; omega
                        have e5n : decide (k < nG) = true := by rw [decide_eq_true_eq]; omega
                        have i4 : (k : Int) < (nG : Int) := by omega
                        have hoc := hmg.lo
                        have hmg2 := hmg.takeG HQ.out.1.up HQ.out.2.2.1.up hd (.inl (by omega))
                        have HN := hid (And.intro hmg2 (And.intro hb (And.intro ho (And.intro (show i ≤ nc by omega) (And.intro hk trivial)))))
                        have HL := hid (And.intro hlC (And.intro hlG (And.intro hRr (And.intro hd (show out.length ≤ 180000 by omega)))))
                        clear hmg hb ho hRr hlC hlG hnc hnG li lk hic hmg2 hk hd hoc
                        go_wp2_with fail
                        go_quiet (fail)
                        go_wp2_with fail
                        go_quiet (fail)
                        generalize hW5 : World.drewN (World.drewN wr _) _ = W5
                        have hb5 : Below wr.heap.size wr W5 := by rw [← hW5]; exact below_drewNP (below_drewNP (Below.refl _ _) _) _
                        obtain ⟨gx, exx, x0, x1, x2⟩ := (HL.out.2.2.1.below hb5).gcell HL.out.2.2.2.1
                        cases exx
                        have ho5 := ownsRow_below HN.out.2.2.1 hb5
                        have hbl5 := HN.out.2.1.trans (hb5.mono HN.out.2.1.size)
                        have H5b := hid (And.intro ho5 hbl5)
                        clear hW5 hb5 ho5 hbl5
                        go_wp2_with (at_builtin; refine wpList_append_grew _ rfl _ _ _ _ rfl W9.heap.size 63 ic _ 3 24 Try.underlying34 HI.out.1 HI.out.2.1 HI.out.2.2.1 HI.out.2.2.2 rfl (.slice u1 u2 u3) out.length (out.flatMap czC) rfl (ownsRow_below H5b.out.1 ((Below.refl _ _).alloc (Nat.le_refl _) _)) _ 1 [.int .u64 (d.at_ : Int), .int .i64 d.prot, .int .u8 (d.b.toNat : Int)] rfl (Src.laid _ Try.underlying34 [.int .u64 (d.at_ : Int), .int .i64 d.prot, .int .u8 (d.b.toNat : Int)] 1 rfl (by simp [Value.oneCell']) (0, 0) (by simp)) (Nat.le_trans (show out.length + 1 ≤ 200001 by have := HL.out.2.2.2.2; omega) (by decide)) (by have := HL.out.2.2.2.2; omega) (by have := H5b.out.2.size; simp; omega) ?_)
                        intro v6 W6 ho6 hg6
                        have hg6 := Grew.under ((Below.refl _ _).alloc (Nat.le_refl _) _ : Below W5.heap.size W5 _) hg6
                        obtain ⟨r1, r2, r3, rfl⟩ := own_form ho6
                        have hbl6 := bel_grewG H5b.out.2 H5b.out.1 hg6
                        have hfm : (out ++ [d]).flatMap czC = out.flatMap czC ++ czC d := by rw [List.flatMap_append]; simp
                        have H6 := hid (And.intro hbl6 (show W6.ownsRow W9.heap.size 63 3 (.slice r1 r2 r3) (out ++ [d]).length ((out ++ [d]).flatMap czC) by rw [hfm, List.length_append]; exact ho6))
                        clear ho6 hg6 hbl6 hfm x0 x1 x2
                        go_wp2_with fail
                        exact ⟨⟨i, k + 1, out ++ [d], rfl, by go_num, HN.out.1, H6.out.1, H6.out.2⟩, by simp only [intOf, Int.toNat_natCast]; have h1 := HN.out.2.2.2; have h2 := HL.out.1; have h3 := HL.out.2.1; omega⟩
                      · have e5 : decide ((k : Int) < (nG : Int)) = false := by rw [decide_eq_false_iff_not]; omega
                        have e5n : decide (k < nG) = false := by rw [decide_eq_false_iff_not]; omega
                        obtain ⟨hout, hnm⟩ := hmg.done (by omega) (by omega)
                        obtain ⟨hRf, hokO⟩ := (HQ.out.2.2.2.2.2.2 out).2 hnm hout
                        subst hRf
                        have hoc := hmg.lo
                        have hbw := HD.out.1.bel.trans (hb.mono HD.out.1.bel.size)
                        have hro := own3_reads czLen ho
                        have hu2 := RowsAt.len' hro
                        have hp := br_laid wr (.slice u1 u2 u3) out hro (fun c hc => (hokO.ok c hc).1) (by omega)
                        have HN := hid (And.intro hbw hp)
                        clear hmg hb ho hRr hlC hlG hnc hnG li lk hic hk hout hnm hokO hoc hbw hro hu2 hp
                        go_wp2_with fail
                        refine HN.out.2.mono ?_
                        rintro e wz ⟨vz, rfl, hnz⟩
                        have hnw : NewOwn w wz vz (piecesZ out) := by
                          obtain ⟨h1, LL, h2, h3⟩ := hnz
                          exact ⟨HN.out.1.trans (h1.mono HN.out.1.size), LL, h2.widen (fun k hk => ⟨Nat.le_trans HN.out.1.size hk.1, hk.2⟩), h3⟩
                        obtain ⟨t1, t2, t3, rfl⟩ := hno_form hnz
                        have HZ := hid hnw
                        clear hnz hnw
                        go_wp2_with fail
                        refine bodyPost_ret (v := .tuple #[.slice t1 t2 t3, .int .i64 0]) (by simp [results, Try.results19, go_sem]) rfl ?_
                        exact ⟨_, rfl, HZ.out⟩
end Go.Proofs.Ythlnjfnjmjdohaa
