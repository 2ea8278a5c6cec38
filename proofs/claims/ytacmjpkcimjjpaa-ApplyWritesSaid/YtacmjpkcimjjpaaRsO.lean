/- The reference's Dump of two pages side by side: the walk. -/
import Derived.Test.YtacmjpkcimjjpaaRsN
import Derived.Test.YtacmjpkcimjjpaaSpZ
import Derived.Deep.DeepCutAuto
import Derived.Deep.RegionLaw
namespace Go.Proofs.Ytacmjpkcimjjpaa
set_option linter.unusedSimpArgs false
set_option linter.unusedVariables false
open Go.RowKit Go.Maps

/-- A cell of an owned slice is written over. -/
theorem ownsRow_set {W : World} {base : Nat} {e : TypeId} {size : Nat} {G n cap : Nat} {xs : List Value} (h : W.ownsRow base e size (.slice (some ⟨G, 0, none⟩) n cap) n xs) {i : Nat} (hi : i < n * size) (u : Value) :
    (W.setCell ⟨G, i, none⟩ u).ownsRow base e size (.slice (some ⟨G, 0, none⟩) n cap) n (xs.set i u) := by
  rcases h.2 with ⟨he, -⟩ | ⟨g, c, cur, he, h1, h2, h3, h4, h5, h6⟩
  · cases he
  · cases he
    refine ⟨by simp [h.1], .inr ⟨G, cap, cur.setIfInBounds i u, rfl, h1, RowAt.same (vs := cur) h2 u, h3, h4, by simp [h5], ?_⟩⟩
    rw [← h6]
    simp [List.take_set]

theorem page_bs {W : World} {g : Nat} {t : TypeId} {l : List UInt8} (h : RowAt W g t (u8s l).toArray) (hl : l.length = 4096) : BS W (.slice (some ⟨g, 0, none⟩) 4096 4096) l :=
  ⟨some ⟨g, 0, none⟩, 4096, by rw [hl], by omega, ⟨by decide, by omega⟩, fun _ => ⟨g, 0, rfl, fun i x hx => by rw [Nat.zero_add, h.cell i]; simp [u8s, hx]⟩⟩

theorem src_laidN {P : Program} (w : World) {size : Nat} {tx e' t : TypeId} (hk : P.underlying tx = some (.slice e')) (news : List Value) (m : Nat) (hl : news.length = m * size) (h1 : ∀ u ∈ news, u.oneCell' = true) (fr : Nat × Nat) {B : Nat} (hB : w.heap.size = B) (q : Nat) :
    Src P size tx (.slice (some ⟨B, 0, none⟩) m m) m news ((w.alloc (.cells news.toArray t fr)).drewN q) := by
  subst hB
  refine Src.ofSlice _ hk _ m m news hl (fun j x hx => ?_) h1
  have ea : (⟨w.heap.size, 0, none⟩ : Addr).add j = ⟨w.heap.size, j, none⟩ := by unfold Addr.add; split <;> simp_all
  rw [ea]
  show (w.alloc (.cells news.toArray t fr)).cell? _ = _
  rw [cell_of_row _ _ j _ _ _ (heap_alloc_new w _)]
  simpa using hx
theorem grew_drewN {w w' : World} {v v' : Value} {q : Nat} (h : Grew (w.drewN q) w' v v') : Grew w w' v v' := ⟨⟨h.by_.os, h.by_.tape, h.by_.output, h.by_.size, h.by_.block⟩, h.lies⟩

/-- A piece in a slice of one; its bytes grow. -/
theorem piece_step {W W3 : World} {base G cap : Nat} {a p u u' : Value} {bs cs : List UInt8} (hl : W.ownsRow base 106 3 (.slice (some ⟨G, 0, none⟩) 1 cap) 1 [a, p, u]) (hap : Apart (.slice (some ⟨G, 0, none⟩) 1 cap) u) (hg : Grew W W3 u u') (ho : OB W3 base 5 u' cs) :
    (W3.setCell ⟨G, 2, none⟩ u').ownsRow base 106 3 (.slice (some ⟨G, 0, none⟩) 1 cap) 1 [a, p, u'] ∧ OB (W3.setCell ⟨G, 2, none⟩ u') base 5 u' cs ∧ Apart (.slice (some ⟨G, 0, none⟩) 1 cap) u' := by
  have h1 := hg.own hl hap
  have h2 := hg.apart hl hap
  refine ⟨ownsRow_set h1 (by omega) u', ownsRow_setOther ho (fun e => h2 G rfl e) _, h2⟩

/-- Between two rounds. -/
def DmpR (w : World) (x0 : Nat) (p : Int) (bs : Nat → List UInt8) (n : Nat) (v : Value) (W : World) : Prop :=
  Below w.heap.size w W ∧ ((n = 0 ∧ v = .slice none 0 0) ∨ (0 < n ∧ ∃ G cap u, v = .slice (some ⟨G, 0, none⟩) 1 cap ∧ W.ownsRow w.heap.size 106 3 v 1 [.int .u64 (x0 : Int), .int .i64 p, u] ∧ OB W w.heap.size 5 u (bs n) ∧ Apart v u))

def RDump (n0 : Nat) (w : World) (d : Nat × Int × List UInt8) (e : Ending) (w' : World) : Prop :=
  ∃ v x, e = .returned v ∧ Pc.d x = d ∧ w'.ownsRow n0 106 3 v 1 (pcCells [x]) ∧ BS w' x.sl x.bytes ∧ Below w.heap.size w w'

theorem owned_cells {W : World} {base G cap : Nat} {a p u : Value} (hl : W.ownsRow base 106 3 (.slice (some ⟨G, 0, none⟩) 1 cap) 1 [a, p, u]) : W.cell? ⟨G, 0, none⟩ = some a ∧ W.cell? ⟨G, 1, none⟩ = some p ∧ W.cell? ⟨G, 2, none⟩ = some u ∧ base ≤ G ∧ W.frozen? ⟨G, 2, none⟩ = false := by
  have h0 := hl.cellAt 0 (by omega)
  have h1 := hl.cellAt 1 (by omega)
  have h2 := hl.cellAt 2 (by omega)
  refine ⟨h0, h1, h2, (hl.lt G rfl).1, ?_⟩
  rcases hl.2 with ⟨he, -⟩ | ⟨g, c, cur, he, h1, h2, h3, h4, h5, h6⟩
  · cases he
  · cases he; exact frozen_of_row W G 2 _ _ h2

set_option maxRecDepth 10000 in
set_option maxHeartbeats 4000000 in
theorem rs_dump2 (n0 : Nat) (w : World) (r : Nat) (vA vB vP : Value) (g0 g1 : Pg) (h : RSp n0 w r vA vB vP [g0, g1]) (hno : g1.no = g0.no + 1) (hpr : g1.prot = g0.prot) :
    Calls Try.prog 16 #[.pointer (some ⟨r, 0, none⟩)] w (RDump w.heap.size w (g0.no * 4096, g0.prot, g0.bytes ++ g1.bytes)) := by
  obtain ⟨pA, cA, rfl⟩ := ownsRow_form h.a
  obtain ⟨pB, cB, rfl⟩ := ownsRow_form h.b
  obtain ⟨pP, cP, rfl⟩ := ownsRow_form h.p
  obtain ⟨ga, rfl, -, hga, ca⟩ := own_cell h.a (by simp)
  obtain ⟨gb, rfl, -, hgb, cb⟩ := own_cell h.b (by simp)
  obtain ⟨gp, rfl, -, hgp, cp⟩ := own_cell h.p (by simp)
  have a0 : w.cell? ⟨ga, 0, none⟩ = some (.int .u64 ((g0.no * 4096 : Nat) : Int)) := ca 0 _ rfl
  have a1 : w.cell? ⟨ga, 1, none⟩ = some (.int .u64 ((g1.no * 4096 : Nat) : Int)) := ca 1 _ rfl
  have b0 : w.cell? ⟨gb, 0, none⟩ = some (.slice (some ⟨g0.blk, 0, none⟩) 4096 4096) := cb 0 _ rfl
  have b1 : w.cell? ⟨gb, 1, none⟩ = some (.slice (some ⟨g1.blk, 0, none⟩) 4096 4096) := cb 1 _ rfl
  have p0 : w.cell? ⟨gp, 0, none⟩ = some (.int .i64 g0.prot) := cp 0 _ rfl
  have p1 : w.cell? ⟨gp, 1, none⟩ = some (.int .i64 g1.prot) := cp 1 _ rfl
  have n0' := (h.pages g0 (by simp)).2.2.1
  rw [hpr] at p1
  obtain ⟨x0, hx0⟩ : ∃ x, x = g0.no * 4096 := ⟨_, rfl⟩
  obtain ⟨x1, hx1⟩ : ∃ x, x = g1.no * 4096 := ⟨_, rfl⟩
  obtain ⟨p, hp⟩ : ∃ p, p = g0.prot := ⟨_, rfl⟩
  rw [← hx0] at a0 ⊢
  rw [← hx1] at a1
  rw [← hp] at p0 p1 ⊢
  have hwx : IntKind.u64.wrap ((x0 : Int) + 4096) = (x1 : Int) := (IntWalk.u64_in _ (by omega)).trans (by omega)
  have s0 : w.cell? ⟨r, 0, none⟩ = some (.slice (some ⟨ga, 0, none⟩) 2 cA) := h.row.cell 0
  have s1 : w.cell? ⟨r, 1, none⟩ = some (.slice (some ⟨gb, 0, none⟩) 2 cB) := h.row.cell 1
  have s2 : w.cell? ⟨r, 2, none⟩ = some (.slice (some ⟨gp, 0, none⟩) 2 cP) := h.row.cell 2
  have B0 : BS w (.slice (some ⟨g0.blk, 0, none⟩) 4096 4096) g0.bytes := page_bs (h.pages g0 (by simp)).1 (h.pages g0 (by simp)).2.1
  have B1 : BS w (.slice (some ⟨g1.blk, 0, none⟩) 4096 4096) g1.bytes := page_bs (h.pages g1 (by simp)).1 (h.pages g1 (by simp)).2.1
  have l0 := (h.pages g0 (by simp)).2.1
  have l1 := (h.pages g1 (by simp)).2.1
  have hrl := h.row.lt
  obtain ⟨bs, hbs⟩ : ∃ bs : Nat → List UInt8, bs = fun n => if n = 0 then [] else if n = 1 then g0.bytes else g0.bytes ++ g1.bytes := ⟨_, rfl⟩
  have hbs1 : bs 1 = g0.bytes := by rw [hbs]; rfl
  have hbs2 : bs 2 = g0.bytes ++ g1.bytes := by rw [hbs]; rfl
  have H := hid (And.intro B0 (And.intro B1 (And.intro l0 (And.intro l1 (And.intro hbs1 hbs2)))))
  have HC := hid (And.intro a0 (And.intro a1 (And.intro b0 (And.intro b1 (And.intro p0 (And.intro p1 (And.intro s0 (And.intro s1 (And.intro s2 (And.intro hrl (And.intro hga (And.intro hgb hgp))))))))))))
  rw [← hbs2]
  clear B0 B1 l0 l1 hbs hbs1 hbs2 ca cb cp h hx0 hx1 hp n0' hno hpr a0 a1 b0 b1 p0 p1 s1 s2 hrl hga hgb hgp
  go_enter Try.func16, Try.ntmps16
  go_wp2_with fail
  go_loopw [3, 4] (fun l i wr => ∃ n : Nat, n ≤ 2 ∧ i = .int .i64 (n : Int) ∧ DmpR w x0 p bs n l wr) (fun _ i _ => 2 - (intOf i).toNat)
  case atStart => exact ⟨0, by omega, rfl, Below.refl _ _, .inl ⟨rfl, rfl⟩⟩
  case round =>
    obtain ⟨n, hn, rfl, hbel, hD⟩ := hrel
    obtain ⟨a0, a1, b0, b1, p0, p1, s0', s1, s2, hrl, hga, hgb, hgp⟩ := HC.out
    have a0 := below_cell' hbel hga a0
    have a1 := below_cell' hbel hga a1
    have b0 := below_cell' hbel hgb b0
    have b1 := below_cell' hbel hgb b1
    have p0 := below_cell' hbel hgp p0
    have p1 := below_cell' hbel hgp p1
    have s0' := below_cell' hbel hrl s0'
    have s1 := below_cell' hbel hrl s1
    have s2 := below_cell' hbel hrl s2
    obtain rfl | rfl | rfl : n = 0 ∨ n = 1 ∨ n = 2 := by omega
    · rcases hD with ⟨-, rfl⟩ | ⟨hh, -⟩
      rotate_left
      · omega
      obtain ⟨i0, hi0, hz0, hz1, hz2⟩ := info_parts Try.infoPiece
      obtain ⟨u8, hu8⟩ := u8row
      have HI := hid (And.intro hi0 (And.intro hz0 (And.intro hz1 (And.intro hz2 (And.intro hu8 hbel)))))
      clear hi0 hz0 hz1 hz2 hu8 hbel
      go_wp2_with fail
      go_quiet (fail)
      go_upto_region 6 with fail
      generalize hW5 : World.drewN wr _ = W5
      have hb5 : Below w.heap.size w W5 := by rw [← hW5]; exact ⟨HI.out.2.2.2.2.2.os, HI.out.2.2.2.2.2.tape, HI.out.2.2.2.2.2.output, HI.out.2.2.2.2.2.size, HI.out.2.2.2.2.2.block⟩
      clear hW5 a0 a1 b0 b1 p0 p1 s0' s1 s2
      obtain ⟨a0, a1, b0, b1, p0, p1, s0', s1, s2, hrl, hga, hgb, hgp⟩ := HC.out
      have a0 := below_cell' hb5 hga a0
      have p0 := below_cell' hb5 hgp p0
      have s0' := below_cell' hb5 hrl s0'
      have s2 := below_cell' hb5 hrl s2
      have H5 := hid hb5
      clear hb5 a1 b0 b1 p1 s1 hrl hga hgb hgp
      go_cut [3] (fun l wx => ∃ G c, l = .slice (some ⟨G, 0, none⟩) 1 c ∧ wx.ownsRow w.heap.size 106 3 (.slice (some ⟨G, 0, none⟩) 1 c) 1 [.int .u64 (x0 : Int), .int .i64 p, .slice none 0 0] ∧ Below w.heap.size w wx)
      case first =>
        go_region_law (refine step_grew _ rfl _ _ _ _ rfl w.heap.size 106 i0 _ 3 40 Try.underlying49 HI.out.1 HI.out.2.1 HI.out.2.2.1 HI.out.2.2.2.1 rfl _ 0 [] rfl (World.ownsRow_nil _ _ _ _) _ 1 [.int .u64 (x0 : Int), .int .i64 p, .slice none 0 0] rfl (src_laidD W5 Try.underlying49 _ 1 rfl (by simp [Value.oneCell']) (0, 0) rfl) (by simp only [maxLen]; omega) (by omega) (by have := H5.out.size; simp; omega) ?_; intro v1 W1 hl1 hg1; obtain ⟨p1, c1, hv1⟩ := ownsRow_form hl1; subst hv1)
        all_goals
          have hg2 : Grew W5 _ (.slice none 0 0) (.slice p1 1 c1) := Grew.under (Below.alloc (Below.refl _ _) (Nat.le_refl _) _) (grew_drew hg1)
          have hb1 : Below w.heap.size w _ := H5.out.trans (hg2.below H5.out.size (fun k hk => by simp [Value.ownBlock] at hk))
          obtain ⟨G, rfl⟩ : ∃ G, p1 = some ⟨G, 0, none⟩ := by
            rcases hl1.2 with ⟨he, hz⟩ | ⟨g, c, cur, he, -⟩
            · cases hz
            · cases he; exact ⟨g, rfl⟩
          go_wp2_with fail
          go_meet
          exact ⟨G, c1, rfl, hl1, hb1⟩
      case rest =>
      obtain ⟨G, c1, rfl, hl1, hb1⟩ := hcut
      obtain ⟨x0c, x1c, x2c, hG, xf⟩ := owned_cells hl1
      clear a0 p0 s0' s2
      obtain ⟨a0, a1, b0, b1, p0, p1, s0', s1, s2, hrl, hga, hgb, hgp⟩ := HC.out
      have b0 := below_cell' hb1 hgb b0
      have s1 := below_cell' hb1 hrl s1
      have H1 := hid (And.intro hl1 hb1)
      have HB0 := hid ((H.out.1.below hb1))
      clear hl1 hb1 a0 a1 b1 p0 p1 s0' s2 hrl hga hgb hgp
      go_wp2_with fail
      have hw0 : IntKind.i64.wrap 0 = 0 := by decide
      have hs : Src Try.prog 1 102 (.slice (some ⟨g0.blk, 0, none⟩) 4096 4096) g0.bytes.length (u8s g0.bytes) wc.drew := by
        have hs : Src Try.prog 1 102 (.slice (some ⟨g0.blk, 0, none⟩) 4096 4096) 4096 (u8s g0.bytes) wc.drew := Src.ofBS Try.underlying102 (show BS wc.drew _ _ from HB0.out)
        have hle := H.out.2.2.1
        rw [hle]
        exact hs
      have HS := hid hs
      clear hs
      go_region_law (refine step_bytes HI.out.2.2.2.2.1 _ rfl _ _ _ rfl w.heap.size _ [] rfl (OB.nil _ _ _) _ g0.bytes rfl HS.out (by rw [H.out.2.2.1]; decide) H1.out.2.size ?_; intro u' W3 ho hg; obtain ⟨pu, cu, hu⟩ := ho.form; subst hu; have hg' : Grew wc W3 (.slice none 0 0) (.slice pu (([] : List UInt8) ++ g0.bytes).length cu) := ⟨⟨hg.by_.os, hg.by_.tape, hg.by_.output, hg.by_.size, hg.by_.block⟩, hg.lies⟩; have h3 := hg'.own H1.out.1 (Apart.nil _).symm; obtain ⟨z0, z1, z2, zG, zf⟩ := owned_cells h3; have HG := hid (And.intro hg' (And.intro ho (And.intro h3 zG))); clear hg hg' ho h3 z0 z1 zG)
      all_goals
        have hst := piece_step (bs := []) H1.out.1 (Apart.nil _).symm HG.out.1 HG.out.2.1
        have hb3 : Below w.heap.size w W3 := H1.out.2.trans (HG.out.1.below H1.out.2.size (fun k hk => by simp [Value.ownBlock] at hk))
        have H3 := hid (And.intro hst (hb3.setCell (p := ⟨G, 2, none⟩) HG.out.2.2.2 (.slice pu (([] : List UInt8) ++ g0.bytes).length cu)))
        clear hst hb3 HG z2 zf x0c x1c x2c xf hw0
        go_wp2_with fail
        go_roundw
        case rel =>
          refine ⟨1, by omega, rfl, H3.out.2, .inr ⟨by omega, G, c1, _, rfl, H3.out.1.1, ?_, H3.out.1.2.2⟩⟩
          have := H3.out.1.2.1
          rw [List.nil_append] at this
          rw [H.out.2.2.2.2.1]
          exact this
        case measure => simp [intOf]
    · rcases hD with ⟨hh, -⟩ | ⟨-, G, c1, u, rfl, hl1, hu, hap⟩
      · omega
      obtain ⟨pu, cu, rfl⟩ := hu.form
      obtain ⟨u8, hu8⟩ := u8row
      have l0 := H.out.2.2.1
      have l1 := H.out.2.2.2.1
      have HI := hid (And.intro hl1 (And.intro hu (And.intro hap (And.intro hu8 hbel))))
      have hw0 : IntKind.i64.wrap 0 = 0 := by decide
      have hbl : (bs 1).length = 4096 := by rw [H.out.2.2.2.2.1]; exact l0
      have HL := hid (And.intro l0 (And.intro l1 hbl))
      clear hl1 hu hap hu8 hbel l0 l1 hbl
      go_wp2_with fail
      go_quiet (fail)
      go_wp2_with fail
      generalize hW5 : World.drewN wr _ = wc
      have hb1 : Below w.heap.size w wc := by rw [← hW5]; exact ⟨HI.out.2.2.2.2.os, HI.out.2.2.2.2.tape, HI.out.2.2.2.2.output, HI.out.2.2.2.2.size, HI.out.2.2.2.2.block⟩
      have hl1 : wc.ownsRow w.heap.size 106 3 (.slice (some ⟨G, 0, none⟩) 1 c1) 1 [.int .u64 (x0 : Int), .int .i64 p, .slice pu (bs 1).length cu] := by rw [← hW5]; exact HI.out.1
      have hu : OB wc.drew w.heap.size 5 (.slice pu (bs 1).length cu) (bs 1) := by rw [← hW5]; exact HI.out.2.1
      clear hW5 a0 a1 b0 b1 p0 p1 s0' s1 s2
      obtain ⟨a0, a1, b0, b1, p0, p1, s0', s1, s2, hrl, hga, hgb, hgp⟩ := HC.out
      have b1 := below_cell' hb1 hgb b1
      have s1 := below_cell' hb1 hrl s1
      obtain ⟨x0c, x1c, x2c, hG, xf⟩ := owned_cells hl1
      have hs : Src Try.prog 1 102 (.slice (some ⟨g1.blk, 0, none⟩) 4096 4096) g1.bytes.length (u8s g1.bytes) wc.drew := by
        have hs : Src Try.prog 1 102 (.slice (some ⟨g1.blk, 0, none⟩) 4096 4096) 4096 (u8s g1.bytes) wc.drew := Src.ofBS Try.underlying102 (show BS wc.drew _ _ from (show BS wc _ _ from H.out.2.1.below hb1))
        have hle := H.out.2.2.2.1
        rw [hle]
        exact hs
      have H1 := hid (And.intro hl1 (And.intro hb1 (And.intro hu hs)))
      clear hl1 hb1 hs hu a0 a1 b0 p0 p1 s0' s2 hrl hga hgb hgp
      go_region_law (refine step_bytes HI.out.2.2.2.1 _ rfl _ _ _ rfl w.heap.size _ (bs 1) rfl H1.out.2.2.1 _ g1.bytes rfl H1.out.2.2.2 (by rw [HL.out.2.1, HL.out.2.2]; decide) H1.out.2.1.size ?_; intro u' W3 ho hg; obtain ⟨pv, cv, hu⟩ := ho.form; rw [show (bs 1 ++ g1.bytes).length = 8192 from by rw [List.length_append, HL.out.2.2, HL.out.2.1]] at hu; subst hu; have hg' : Grew wc W3 (.slice pu (bs 1).length cu) (.slice pv 8192 cv) := ⟨⟨hg.by_.os, hg.by_.tape, hg.by_.output, hg.by_.size, hg.by_.block⟩, hg.lies⟩; have h3 := hg'.own H1.out.1 HI.out.2.2.1; obtain ⟨z0, z1, z2, zG, zf⟩ := owned_cells h3; have HG := hid (And.intro hg' (And.intro ho (And.intro h3 zG))); clear hg hg' ho h3 z0 z1 zG)
      all_goals
        have hst := piece_step (bs := bs 1) H1.out.1 HI.out.2.2.1 HG.out.1 HG.out.2.1
        have hb3 : Below w.heap.size w W3 := H1.out.2.1.trans (HG.out.1.below H1.out.2.1.size (fun k hk => (H1.out.2.2.1.high k hk)))
        have H3 := hid (And.intro hst (hb3.setCell (p := ⟨G, 2, none⟩) HG.out.2.2.2 (.slice pv 8192 cv)))
        clear hst hb3 HG z2 zf x0c x1c x2c xf hw0
        go_wp2_with fail
        go_roundw
        case rel =>
          refine ⟨2, by omega, rfl, H3.out.2, .inr ⟨by omega, G, c1, _, rfl, H3.out.1.1, ?_, H3.out.1.2.2⟩⟩
          have := H3.out.1.2.1
          rw [H.out.2.2.2.2.2]
          rw [H.out.2.2.2.2.1] at this
          exact this
        case measure => simp [intOf]
    · rcases hD with ⟨hh, -⟩ | ⟨-, G, c1, u, rfl, hl1, hu, hap⟩
      · omega
      have hlb : (bs 2).length ≤ 140737488355328 := by rw [H.out.2.2.2.2.2, List.length_append, H.out.2.2.1, H.out.2.2.2.1]; decide
      obtain ⟨pu, cu, rfl⟩ := hu.form
      have HI := hid (And.intro hl1 (And.intro (hu.bs hlb) hbel))
      clear hl1 hu hap hlb hbel
      go_wp2_with fail
      go_ret
      exact ⟨_, ⟨x0, p, pu, cu, bs 2⟩, rfl, rfl, HI.out.1, HI.out.2.1, HI.out.2.2⟩
end Go.Proofs.Ytacmjpkcimjjpaa
