/- The document's Memory, walked. -/
import Derived.Test.YthlnjfnjmjdohaaZBrE
import Derived.Test.YthlnjfnjmjdohaaZBdG
namespace Go.Proofs.Ythlnjfnjmjdohaa
set_option linter.unusedSimpArgs false
set_option linter.unusedVariables false
open Go.RowKit

/-- What the document's Memory gives. -/
def RMemEnd (w : World) (r : Rz) (e : Ending) (w' : World) : Prop :=
  ∃ vl vg vp Ll Lg Lp, e = .returned (.tuple #[.agg #[vl, vg, vp], .int .i64 0]) ∧ Below w.heap.size w w' ∧ PzsAt w' vl Ll ∧ PzsAt w' vg Lg ∧ PasAt w' vp Lp ∧ rzV Ll Lg Lp = r
theorem cells_of {w w' : World} {L : List PzV} {e : Ending} (h : CellsEnd w (L.map PzV.m) e w') (hm : mayZ (L.map PzV.m) = true) : ∃ p n c, e = .returned (.tuple #[.slice p n c, .bool true]) ∧ Below w.heap.size w w' ∧ RowsAt czC 3 w' (.slice p n c) (cellsZ (L.map PzV.m)) ∧ n = (cellsZ (L.map PzV.m)).length := by
  obtain ⟨v, h1, h2, h3⟩ := h
  rw [hm] at h1
  rw [if_pos hm] at h3
  obtain ⟨p, n, c, rfl⟩ := own_form h3
  have hr := own3_reads czLen h3
  exact ⟨p, n, c, h1, h2, hr, (RowsAt.len' hr).symm⟩
theorem refp_base {K : PaV → Prop} {B X : Nat} {w W : World} {vl vg vp : Value} {Cl Cg : List Cz} {Lp : List PaV} (h : RefV K B X w W vl vg vp Cl Cg Lp) : W.ownsRow B 54 3 vp Lp.length (Lp.flatMap PaV.cells) := by
  obtain ⟨h1, h2 | ⟨g, cap, cur, e, -, rest⟩⟩ := h.p.own
  · exact ⟨h1, .inl h2⟩
  · exact ⟨h1, .inr ⟨g, cap, cur, e, (h.dp g (.inl (by rw [e]; rfl))).1, rest⟩⟩
theorem nat_beq0 (n : Nat) : ((n : Int) == 0) = (n == 0) := by
  by_cases h : n = 0
  · subst h; rfl
  · rw [beq_eq_false_iff_ne.2 h, beq_eq_false_iff_ne.2 (by omega)]
theorem push_new {P : List Gz} {last : Nat} {d : Dz} (h : P = [] ∨ ∃ init q, P = init ++ [q] ∧ q.at_ + q.old.length = last + 1) (hn : P = [] ∨ d.at_ ≠ last + 1) : pushD P d = P ++ [⟨d.at_, [d.old], [d.new]⟩] := by
  rcases h with rfl | ⟨init, q, rfl, hq⟩
  · rfl
  · rcases hn with hn | hn
    · simp at hn
    · rw [pushD_snoc, if_neg (by omega)]
theorem cz_cell {W : World} {a : Option Addr} {n cap : Nat} {l : List Cz} (h : RowsAt czC 3 W (.slice a n cap) l) {i : Nat} {x : Cz} (hx : l[i]? = some x) : ∃ g off, a = some ⟨g, off, none⟩ ∧ W.cell? ⟨g, off + i * 3, none⟩ = some (.int .u64 (x.at_ : Int)) ∧ W.cell? ⟨g, off + i * 3 + 1, none⟩ = some (.int .i64 x.prot) ∧ W.cell? ⟨g, off + i * 3 + 2, none⟩ = some (.int .u8 (x.b.toNat : Int)) := by
  obtain ⟨g, off, e, hc⟩ := RowsAt.at h hx
  exact ⟨g, off, e, by simpa using hc 0 _ rfl, hc 1 _ rfl, hc 2 _ rfl⟩

set_option maxHeartbeats 16000000 in
set_option maxRecDepth 8000 in
theorem br_memory (w : World) (va vb : Value) (A B : List PzV) (hA : PzsAt w va A) (hB : PzsAt w vb B) (hla : A.length ≤ 1000) (hlb : B.length ≤ 1000) (hma : mayZ (A.map PzV.m) = true) (hmb : mayZ (B.map PzV.m) = true) (hca : (cellsZ (A.map PzV.m)).length ≤ 90000) (hcb : (cellsZ (B.map PzV.m)).length ≤ 90000) :
    Calls Try.prog 10 #[va, vb] w (RMemEnd w (memZ (A.map PzV.m) (B.map PzV.m))) := by
  have hcA := hid (fun W (hb : Below w.heap.size w W) => br_cells W va A (hA.below hb) (by omega) (by omega))
  have hcB := hid (fun W (hb : Below w.heap.size w W) => br_cells W vb B (hB.below hb) (by omega) (by omega))
  have hma' := hid hma
  have hmb' := hid hmb
  obtain ⟨xs, hxs⟩ : ∃ xs, xs = cellsZ (A.map PzV.m) := ⟨_, rfl⟩
  obtain ⟨ys, hys⟩ : ∃ ys, ys = cellsZ (B.map PzV.m) := ⟨_, rfl⟩
  have hxm : ∀ c ∈ xs, c.at_ < MAXA := by rw [hxs]; exact cells_max (srt_of_may hma)
  have hym : ∀ c ∈ ys, c.at_ < MAXA := by rw [hys]; exact cells_max (srt_of_may hmb)
  have hup : Up xs ∧ Up ys ∧ (∀ c ∈ xs, 1 ≤ c.prot) ∧ ∀ c ∈ ys, 1 ≤ c.prot := by
    rw [hxs, hys]
    exact ⟨(srt_of_may hma).up, (srt_of_may hmb).up, fun c hc => ((srt_of_may hma).lows c hc).2.2, fun c hc => ((srt_of_may hmb).lows c hc).2.2⟩
  have hmem : memZ (A.map PzV.m) (B.map PzV.m) = ⟨piecesZ (mergeR xs ys).1, piecesZ (mergeR xs ys).2.1, (mergeR xs ys).2.2.foldl pushD []⟩ := by rw [hxs, hys]; rfl
  rw [hmem]
  rw [← hxs] at hca
  rw [← hys] at hcb
  obtain ⟨ic, hic, hcz, hcs, hcb2⟩ := info_parts infoC1
  obtain ⟨ig, hig, hgz, hgs, hgb⟩ := info_parts infoG1
  obtain ⟨iu, R⟩ := u8rowB
  have HI := hid (And.intro hic (And.intro hcz (And.intro hcs hcb2)))
  have HG := hid (And.intro hig (And.intro hgz (And.intro hgs (And.intro hgb R))))
  have H := hid (And.intro hxm (And.intro hym (And.intro hup (And.intro hca (And.intro hcb (And.intro hxs hys))))))
  clear hA hB hla hlb hma hmb hxm hym hup hca hcb hxs hys hmem hic hcz hcs hcb2 hig hgz hgs hgb R
  go_enter Try.func10, Try.ntmps10
  go_upto_region 1 with fail
  obtain ⟨W1, hW1⟩ : ∃ W1, W1 = w.alloc (.cells #[.slice none 0 0, .slice none 0 0, .slice none 0 0] 28) := ⟨_, rfl⟩
  have hb1 : Below w.heap.size w W1 := by rw [hW1]; exact (Below.refl _ _).alloc (Nat.le_refl _) _
  have hr1 : RowAt W1 w.heap.size 28 #[.slice none 0 0, .slice none 0 0, .slice none 0 0] := by rw [hW1]; exact heap_alloc_new w _
  rw [← hW1]
  clear hW1
  go_wp2_with fail
  refine (hcA.out _ hb1).mono ?_
  intro e w2 hend
  obtain ⟨px, nx, cx, rfl, hb2, hrx, hnx⟩ := cells_of hend hma'.out
  rw [← H.out.2.2.2.2.2.1] at hrx hnx
  have hbw2 := hb1.trans (hb2.mono hb1.size)
  have hr2 := RowAt.below hr1 hb2
  have hX2 := hid (And.intro hrx hnx)
  clear hend hrx hnx
  go_wp2_with fail
  refine (hcB.out _ hbw2).mono ?_
  intro e w3 hend
  obtain ⟨py, ny, cy, rfl, hb3, hry, hny⟩ := cells_of hend hmb'.out
  rw [← H.out.2.2.2.2.2.2] at hry hny
  have hbw3 := hbw2.trans (hb3.mono hbw2.size)
  have hr3 := RowAt.below hr2 hb3
  have hrx := hX2.out.1
  have hnx := hX2.out.2
  have hrx3 := hrx.below hb3
  have hnx9 : nx ≤ 90000 := by rw [hnx]; exact H.out.2.2.2.1
  have hny9 : ny ≤ 90000 := by rw [hny]; exact H.out.2.2.2.2.1
  have h0 : RefV okD w3.heap.size w3.heap.size w3 (w3.alloc (.cells #[.slice none 0 0, .slice none 0 0, .slice none 0 0] 28)) (.slice none 0 0) (.slice none 0 0) (.slice none 0 0) [] [] [] := by
    have e2 : ∀ k, ¬ blkPa (.slice none 0 0) [] k := fun k hk => hk.elim (fun h => by cases h) (fun ⟨x, hx, _⟩ => by cases hx)
    exact ⟨(Below.refl _ _).alloc (Nat.le_refl _) _, heap_alloc_new w3 _, World.ownsRow_nil _ _ _ _, World.ownsRow_nil _ _ _ _, OwnPaG.nil _ _, (fun k hk => (by cases hk)), (fun k hk => (by cases hk)), fun k hk => absurd hk (e2 k), Nat.le_refl _⟩
  have H3 := hid (And.intro hrx3 (And.intro hry (And.intro hnx (And.intro hny (And.intro hnx9 (And.intro hny9 (And.intro hbw3 (And.intro hr3 h0))))))))
  clear hend hb1 hr1 hb2 hbw2 hr2 hb3 hbw3 hr3 hrx hrx3 hry hnx hny hnx9 hny9 h0 hcA hcB
  go_wp2_with fail
  go_loopw [10, 11, 13, 14, 15] (fun vl vg vz vi vk wr => ∃ (i k last : Nat) (Cl Cg : List Cz) (Lp : List PaV) (vp : Value), i ≤ nx ∧ k ≤ ny ∧ vi = .int .i64 (i : Int) ∧ vk = .int .i64 (k : Int) ∧ vz = .int .u64 (last : Int) ∧ last < MAXA ∧ RefV okD w3.heap.size w3.heap.size w3 wr vl vg vp Cl Cg Lp ∧ RmI xs ys i k Cl Cg (Lp.map PaV.m) last)
    (fun _ _ _ vi vk _ => (nx - (intOf vi).toNat) + (ny - (intOf vk).toNat))
  case atStart => exact ⟨0, 0, 0, [], [], [], _, Nat.zero_le _, Nat.zero_le _, rfl, rfl, rfl, by unfold MAXA; omega, H3.out.2.2.2.2.2.2.2.2, rm_start _ _⟩
  case round =>
    obtain ⟨i, k, last, Cl, Cg, Lp, vp, hi, hk, rfl, rfl, rfl, hlast, hrv, hrm⟩ := hrel
    obtain ⟨l1, l2, l3, rfl⟩ := own_form hrv.l
    obtain ⟨g1, g2, g3, rfl⟩ := own_form hrv.g
    obtain ⟨q1, q2, q3, rfl⟩ := own_form hrv.p.own
    have hl2 : Cl.length ≤ 90000 := by have := hrm.cl; have := H3.out.2.2.2.2.1; omega
    have hg2 : Cg.length ≤ 90000 := by have := hrm.cg; have := H3.out.2.2.2.2.2.1; omega
    have hp2 : Lp.length ≤ 90000 := by have := hrm.cp; rw [List.length_map] at this; have := H3.out.2.2.2.2.1; omega
    have hwi : IntKind.i64.wrap ((i : Int) + 1) = ((i + 1 : Nat) : Int) := (IntWalk.i64_in _ (by have := H3.out.2.2.2.2.1; omega)).trans (by omega)
    have hwk : IntKind.i64.wrap ((k : Int) + 1) = ((k + 1 : Nat) : Int) := (IntWalk.i64_in _ (by have := H3.out.2.2.2.2.2.1; omega)).trans (by omega)
    have HV := hid (And.intro hrv (And.intro hrm (And.intro hl2 (And.intro hg2 (And.intro hp2 (And.intro hi (And.intro hk hlast)))))))
    clear hrv hrm hl2 hg2 hp2 hlast
    by_cases hxl : i < nx
    · by_cases hyl : k < ny
      · have HX := hid (And.intro hxl hyl)
        have di : decide ((i : Int) < (nx : Int)) = true := decide_eq_true (by omega)
        have di2 : decide (i < nx) = true := decide_eq_true (by omega)
        have ei : ((i : Int) == (nx : Int)) = false := by simp only [beq_eq_false_iff_ne]; omega
        have ei2 : (i == nx) = false := by simp only [beq_eq_false_iff_ne]; omega
        have dk : decide ((k : Int) < (ny : Int)) = true := decide_eq_true (by omega)
        have dk2 : decide (k < ny) = true := decide_eq_true (by omega)
        have ek : ((k : Int) == (ny : Int)) = false := by simp only [beq_eq_false_iff_ne]; omega
        have ek2 : (k == ny) = false := by simp only [beq_eq_false_iff_ne]; omega
        obtain ⟨x, hx⟩ : ∃ x, xs[i]? = some x := ⟨_, List.getElem?_eq_getElem (by rw [← H3.out.2.2.1]; exact hxl)⟩
        obtain ⟨gx, ox, hpx, -, -, -⟩ := cz_cell H3.out.1 hx
        cases hpx
        have HXc := hid (fun W (hb : Below w3.heap.size w3 W) => (by obtain ⟨g', o', e, c0, c1, c2⟩ := cz_cell (H3.out.1.below hb) hx; cases e; exact ⟨c0, c1, c2⟩ : W.cell? ⟨gx, ox + i * 3, none⟩ = some (.int .u64 (x.at_ : Int)) ∧ W.cell? ⟨gx, ox + i * 3 + 1, none⟩ = some (.int .i64 x.prot) ∧ W.cell? ⟨gx, ox + i * 3 + 2, none⟩ = some (.int .u8 (x.b.toNat : Int))))
        have hxmx := H.out.1 x (List.mem_of_getElem? hx)
        have hgx : gx < w3.heap.size := by
          obtain ⟨gx', ox', e, c0, -, -⟩ := cz_cell H3.out.1 hx
          cases e
          exact World.block_lt_of_cell? w3 _ c0
        obtain ⟨xa, xp, xb⟩ := x
        dsimp only at HXc hxmx
        have i1 : (0 : Int) ≤ (i : Int) := by omega
        have i2 : (i : Int) < (nx : Int) := by omega
        obtain ⟨y, hy⟩ : ∃ y, ys[k]? = some y := ⟨_, List.getElem?_eq_getElem (by rw [← H3.out.2.2.2.1]; exact hyl)⟩
        obtain ⟨gy, oy, hpy, -, -, -⟩ := cz_cell H3.out.2.1 hy
        cases hpy
        have HYc := hid (fun W (hb : Below w3.heap.size w3 W) => (by obtain ⟨g', o', e, c0, c1, c2⟩ := cz_cell (H3.out.2.1.below hb) hy; cases e; exact ⟨c0, c1, c2⟩ : W.cell? ⟨gy, oy + k * 3, none⟩ = some (.int .u64 (y.at_ : Int)) ∧ W.cell? ⟨gy, oy + k * 3 + 1, none⟩ = some (.int .i64 y.prot) ∧ W.cell? ⟨gy, oy + k * 3 + 2, none⟩ = some (.int .u8 (y.b.toNat : Int))))
        have hymx := H.out.2.1 y (List.mem_of_getElem? hy)
        have hgy : gy < w3.heap.size := by
          obtain ⟨gy', oy', e, c0, -, -⟩ := cz_cell H3.out.2.1 hy
          cases e
          exact World.block_lt_of_cell? w3 _ c0
        obtain ⟨ya, yp, yb⟩ := y
        dsimp only at HYc hymx
        have k1 : (0 : Int) ≤ (k : Int) := by omega
        have k2 : (k : Int) < (ny : Int) := by omega
        clear hi hk hxl hyl
        by_cases hlt : xa < ya
        · as_aux_lemma =>
            have hnext := HV.out.2.1.lost hx (.inr ⟨_, hy, hlt⟩)
            have HN := hid hnext
            have f1 : decide ((xa : Int) < (ya : Int)) = true := decide_eq_true (by omega)
            have f12 : decide (xa < ya) = true := decide_eq_true (by omega)
            clear hnext hx hy hlt hgx hgy hxmx hymx
            go_wp2_with fail
            obtain ⟨x0, x1, x2⟩ := HXc.out wr HV.out.1.bel
            obtain ⟨y0, y1, y2⟩ := HYc.out wr HV.out.1.bel
            go_quiet (fail)
            go_upto_region 11 with fail
            generalize hV : World.drewN wr _ = V
            have hbV : Below wr.heap.size wr V := by rw [← hV]; exact below_drewNP (Below.refl _ _) _
            have HRV := hid ((HV.out.1).below hbV (HV.out.1).size)
            clear hV hbV x0 x1 x2 y0 y1 y2
            obtain ⟨x0, x1, x2⟩ := HXc.out V HRV.out.bel
            go_wp2_with (at_builtin; refine wpList_append_grew _ rfl _ _ _ _ rfl w3.heap.size 63 ic _ 3 24 Try.underlying34 HI.out.1 HI.out.2.1 HI.out.2.2.1 HI.out.2.2.2 rfl (.slice l1 l2 l3) Cl.length (Cl.flatMap czC) rfl (ownsRow_below HRV.out.l ((Below.refl _ _).alloc (Nat.le_refl _) _)) _ 1 [.int .u64 (xa : Int), .int .i64 xp, .int .u8 (xb.toNat : Int)] rfl (Src.laid _ Try.underlying34 [.int .u64 (xa : Int), .int .i64 xp, .int .u8 (xb.toNat : Int)] 1 rfl (by simp [Value.oneCell']) (0, 0) (by simp)) (Nat.le_trans (show Cl.length + 1 ≤ 100001 by have := HV.out.2.2.1; omega) (by decide)) (by have := HV.out.2.2.1; omega) (by have := HRV.out.size; simp; omega) ?_)
            intro v6 W6 ho6 hg6
            have hfin := (HRV.out).pushL (c := ⟨xa, xp, xb⟩) ((Below.refl _ _).alloc (Nat.le_refl _) _) hg6 ho6
            obtain ⟨pW6, nW6, cW6, rfl⟩ := own_form ho6
            have HRW6 := hid hfin
            clear ho6 hg6 hfin x0 x1 x2
            go_wp2_with fail
            exact ⟨⟨i + 1, k, last, _, _, _, _, by have := HX.out.1; have := HX.out.2; have := HV.out.2.2.2.2.2.1; have := HV.out.2.2.2.2.2.2.1; omega, by have := HX.out.1; have := HX.out.2; have := HV.out.2.2.2.2.2.1; have := HV.out.2.2.2.2.2.2.1; omega, by first | go_num | rfl, by first | go_num | rfl, rfl, HV.out.2.2.2.2.2.2.2, HRW6.out, HN.out⟩, by have := HX.out.1; have := HX.out.2; have := HV.out.2.2.2.2.2.1; have := HV.out.2.2.2.2.2.2.1; simp [intOf]; omega⟩
        · by_cases hgt : ya < xa
          · as_aux_lemma =>
              have hnext := HV.out.2.1.gained hy (.inr ⟨_, hx, hgt⟩)
              have HN := hid hnext
              have f1 : decide ((xa : Int) < (ya : Int)) = false := decide_eq_false (by omega)
              have f12 : decide (xa < ya) = false := decide_eq_false (by omega)
              have f2 : decide ((ya : Int) < (xa : Int)) = true := decide_eq_true (by omega)
              have f22 : decide (ya < xa) = true := decide_eq_true (by omega)
              clear hnext hx hy hlt hgt hgx hgy hxmx hymx
              go_wp2_with fail
              obtain ⟨x0, x1, x2⟩ := HXc.out wr HV.out.1.bel
              obtain ⟨y0, y1, y2⟩ := HYc.out wr HV.out.1.bel
              go_quiet (fail)
              go_upto_region 13 with fail
              generalize hV : World.drewN wr _ = V
              have hbV : Below wr.heap.size wr V := by rw [← hV]; exact below_drewNP (Below.refl _ _) _
              have HRV := hid ((HV.out.1).below hbV (HV.out.1).size)
              clear hV hbV x0 x1 x2 y0 y1 y2
              obtain ⟨x0, x1, x2⟩ := HXc.out V HRV.out.bel
              obtain ⟨y0, y1, y2⟩ := HYc.out V HRV.out.bel
              go_quiet (fail)
              go_upto_region 14 with fail
              generalize hV : World.drewN V _ = V2
              have hbV : Below V.heap.size V V2 := by rw [← hV]; exact below_drewNP (Below.refl _ _) _
              have HRV2 := hid ((HRV.out).below hbV (HRV.out).size)
              clear hV hbV x0 x1 x2 y0 y1 y2
              obtain ⟨y0, y1, y2⟩ := HYc.out V2 HRV2.out.bel
              go_wp2_with (at_builtin; refine wpList_append_grew _ rfl _ _ _ _ rfl w3.heap.size 63 ic _ 3 24 Try.underlying34 HI.out.1 HI.out.2.1 HI.out.2.2.1 HI.out.2.2.2 rfl (.slice g1 g2 g3) Cg.length (Cg.flatMap czC) rfl (ownsRow_below HRV2.out.g ((Below.refl _ _).alloc (Nat.le_refl _) _)) _ 1 [.int .u64 (ya : Int), .int .i64 yp, .int .u8 (yb.toNat : Int)] rfl (Src.laid _ Try.underlying34 [.int .u64 (ya : Int), .int .i64 yp, .int .u8 (yb.toNat : Int)] 1 rfl (by simp [Value.oneCell']) (0, 0) (by simp)) (Nat.le_trans (show Cg.length + 1 ≤ 100001 by have := HV.out.2.2.2.1; omega) (by decide)) (by have := HV.out.2.2.2.1; omega) (by have := HRV2.out.size; simp; omega) ?_)
              intro v6 W6 ho6 hg6
              have hfin := (HRV2.out).pushG (c := ⟨ya, yp, yb⟩) ((Below.refl _ _).alloc (Nat.le_refl _) _) hg6 ho6
              obtain ⟨pW6, nW6, cW6, rfl⟩ := own_form ho6
              have HRW6 := hid hfin
              clear ho6 hg6 hfin y0 y1 y2
              go_wp2_with fail
              exact ⟨⟨i, k + 1, last, _, _, _, _, by have := HX.out.1; have := HX.out.2; have := HV.out.2.2.2.2.2.1; have := HV.out.2.2.2.2.2.2.1; omega, by have := HX.out.1; have := HX.out.2; have := HV.out.2.2.2.2.2.1; have := HV.out.2.2.2.2.2.2.1; omega, by first | go_num | rfl, by first | go_num | rfl, rfl, HV.out.2.2.2.2.2.2.2, HRW6.out, HN.out⟩, by have := HX.out.1; have := HX.out.2; have := HV.out.2.2.2.2.2.1; have := HV.out.2.2.2.2.2.2.1; simp [intOf]; omega⟩
          · have hae : xa = ya := by omega
            have f1 : decide ((xa : Int) < (ya : Int)) = false := decide_eq_false (by omega)
            have f12 : decide (xa < ya) = false := decide_eq_false (by omega)
            have f2 : decide ((ya : Int) < (xa : Int)) = false := decide_eq_false (by omega)
            have f22 : decide (ya < xa) = false := decide_eq_false (by omega)
            have HE := hid (And.intro hx (And.intro hy (And.intro hae (And.intro hgx (And.intro hgy (And.intro hxmx hymx))))))
            clear hx hy hlt hgt hgx hgy hxmx hymx hae
            go_wp2_with fail
            obtain ⟨x0, x1, x2⟩ := HXc.out wr HV.out.1.bel
            obtain ⟨y0, y1, y2⟩ := HYc.out wr HV.out.1.bel
            go_quiet (fail)
            go_upto_region 13 with fail
            generalize hV : World.drewN wr _ = V
            have hbV : Below wr.heap.size wr V := by rw [← hV]; exact below_drewNP (Below.refl _ _) _
            have HRV := hid ((HV.out.1).below hbV (HV.out.1).size)
            clear hV hbV x0 x1 x2 y0 y1 y2
            obtain ⟨x0, x1, x2⟩ := HXc.out V HRV.out.bel
            obtain ⟨y0, y1, y2⟩ := HYc.out V HRV.out.bel
            go_quiet (fail)
            go_upto_region 16 with fail
            generalize hV : World.drewN V _ = V2
            have hbV : Below V.heap.size V V2 := by rw [← hV]; exact below_drewNP (Below.refl _ _) _
            have HRV2 := hid ((HRV.out).below hbV (HRV.out).size)
            clear hV hbV x0 x1 x2 y0 y1 y2
            by_cases hpp : xp = yp
            · have hpe : (xp != yp) = false := by simp only [bne_eq_false_iff_eq]; exact hpp
              have HPP := hid hpp
              clear hpp
              obtain ⟨x0, x1, x2⟩ := HXc.out V2 HRV2.out.bel
              obtain ⟨y0, y1, y2⟩ := HYc.out V2 HRV2.out.bel
              go_quiet (fail)
              go_upto_region 19 with fail
              generalize hV : World.drewN V2 _ = V3
              have hbV : Below V2.heap.size V2 V3 := by rw [← hV]; exact below_drewNP (Below.refl _ _) _
              have HRV3 := hid ((HRV2.out).below hbV (HRV2.out).size)
              clear hV hbV x0 x1 x2 y0 y1 y2
              by_cases hbe : xb = yb
              · as_aux_lemma =>
                  have hbb : ((xb.toNat : Int) != (yb.toNat : Int)) = false := by rw [hbe]; simp
                  have hnext := HV.out.2.1.same HE.out.1 HE.out.2.1 HE.out.2.2.1 HPP.out hbe
                  have HN := hid hnext
                  clear hnext hbe
                  obtain ⟨x0, x1, x2⟩ := HXc.out V3 HRV3.out.bel
                  obtain ⟨y0, y1, y2⟩ := HYc.out V3 HRV3.out.bel
                  go_quiet (fail)
                  generalize hV : World.drewN V3 _ = V4
                  have hbV : Below V3.heap.size V3 V4 := by rw [← hV]; exact below_drewNP (Below.refl _ _) _
                  have HRV4 := hid (HRV3.out.below hbV HRV3.out.size)
                  clear hV hbV x0 x1 x2 y0 y1 y2
                  go_wp2_with fail
                  exact ⟨⟨i + 1, k + 1, last, _, _, _, _, by have := HX.out.1; have := HX.out.2; have := HV.out.2.2.2.2.2.1; have := HV.out.2.2.2.2.2.2.1; omega, by have := HX.out.1; have := HX.out.2; have := HV.out.2.2.2.2.2.1; have := HV.out.2.2.2.2.2.2.1; omega, by first | go_num | rfl, by first | go_num | rfl, rfl, HV.out.2.2.2.2.2.2.2, HRV4.out, HN.out⟩, by have := HX.out.1; have := HX.out.2; have := HV.out.2.2.2.2.2.1; have := HV.out.2.2.2.2.2.2.1; simp [intOf]; omega⟩
              · have hbb : ((xb.toNat : Int) != (yb.toNat : Int)) = true := by
                  simp only [bne_iff_ne]
                  intro e
                  exact hbe (UInt8.toNat_inj.1 (by omega))
                have hnext := HV.out.2.1.patch HE.out.1 HE.out.2.1 HE.out.2.2.1 HPP.out hbe HE.out.2.2.2.2.2.1
                have HN := hid hnext
                clear hnext hbe
                obtain ⟨x0, x1, x2⟩ := HXc.out V3 HRV3.out.bel
                obtain ⟨y0, y1, y2⟩ := HYc.out V3 HRV3.out.bel
                go_quiet (fail)
                go_upto_region 20 with fail
                generalize hV : World.drewN V3 _ = V4
                have hbV : Below V3.heap.size V3 V4 := by rw [← hV]; exact below_drewNP (Below.refl _ _) _
                have HRV4 := hid ((HRV3.out).below hbV (HRV3.out).size)
                clear hV hbV x0 x1 x2 y0 y1 y2
                have hq2 : Lp.length = q2 := RowsAt.len' (own3_reads paLen HRV4.out.p.own)
                have cq : V4.cell? ⟨w3.heap.size, 2, none⟩ = some (.slice q1 q2 q3) := HRV4.out.row.cell 2
                obtain ⟨x0, x1, x2⟩ := HXc.out V4 HRV4.out.bel
                have hwl : IntKind.u64.wrap ((last : Int) + 1) = (last : Int) + 1 := IntWalk.u64_in _ (by have := HV.out.2.2.2.2.2.2.2; unfold MAXA at this; omega)
                have Hq2 := hid hq2
                by_cases hnew : q2 = 0 ∨ xa ≠ last + 1
                · have hcond : (((q2 : Int) == 0) = true ∧ (q2 == 0) = true) ∨ ((((q2 : Int) == 0) = false ∧ (q2 == 0) = false) ∧ ((xa : Int) != (last : Int) + 1) = true) := by
                    by_cases h0 : q2 = 0
                    · exact .inl ⟨by simp only [beq_iff_eq]; omega, by simp only [beq_iff_eq]; omega⟩
                    · exact .inr ⟨⟨by simp only [beq_eq_false_iff_ne]; omega, by simp only [beq_eq_false_iff_ne]; omega⟩, by simp only [bne_iff_ne]; omega⟩
                  have hpush : pushD (Lp.map PaV.m) ⟨xa, xb, yb⟩ = Lp.map PaV.m ++ [⟨xa, [xb], [yb]⟩] := push_new HV.out.2.1.last (by have := Hq2.out; rcases hnew with h | h; exact .inl (by rw [List.eq_nil_of_length_eq_zero (by omega : Lp.length = 0)]; rfl); exact .inr h)
                  have HPU := hid hpush
                  clear hpush hnew hq2
                  rcases hcond with ⟨hc0, hc0'⟩ | ⟨⟨hc0, hc0'⟩, hc1⟩
                  all_goals as_aux_lemma =>
                      go_upto_region 22 with fail
                      clear cq x0 x1 x2
                      obtain ⟨x0, x1, x2⟩ := HXc.out V4 (HRV4.out).bel
                      have c2 : V4.cell? ⟨w3.heap.size, 2, none⟩ = some (.slice q1 q2 q3) := (HRV4.out).row.cell 2
                      have hvX : (Value.slice q1 q2 q3).ownBlock ≠ some w3.heap.size := fun e => ((HRV4.out).dp _ (.inl e)).2 rfl
                      have hvx : (Value.slice q1 q2 q3).ownBlock ≠ some gx := fun e => by have := ((HRV4.out).dp _ (.inl e)).1; have := HE.out.2.2.2.1; omega
                      have cf2 := (HRV4.out).row.own 2
                      refine regionG (fun W : World => W.cell? ⟨w3.heap.size, 2, none⟩ = some (.slice q1 q2 q3) ∧ W.cell? ⟨gx, ox + i * 3, none⟩ = some (.int .u64 (xa : Int))) [11] (by kernel_rfl) ?_
                      have hS : (fun W : World => W.cell? ⟨w3.heap.size, 2, none⟩ = some (.slice q1 q2 q3) ∧ W.cell? ⟨gx, ox + i * 3, none⟩ = some (.int .u64 (xa : Int))) V4.drew := ⟨c2, x0⟩
                      refine takeW (i := 0) rfl (by kernel_rfl) (by kernel_rfl) (by kernel_rfl) (by kernel_rfl) (fun _ _ _ h => h) (.inr hS) (.inl ⟨by rfl, by intro _ _; go_simp; with_reducible rfl⟩) ?_
                      try simp only [Act.put, List.setIfInBounds_toArray, List.set_cons_zero, List.set_cons_succ]
                      refine takeL (i := 1) rfl (by kernel_rfl) (by kernel_rfl) (by kernel_rfl) (by kernel_rfl) (by kernel_rfl) (by kernel_rfl) (by kernel_rfl) (fun _ _ _ h => h) hS (.inl ⟨by rfl, by intro _ hSw; (try dsimp only at hSw); go_simp; with_reducible rfl⟩) ?_
                      try simp only [Act.put, List.setIfInBounds_toArray, List.set_cons_zero, List.set_cons_succ]
                      refine takeW (i := 2) rfl (by kernel_rfl) (by kernel_rfl) (by kernel_rfl) (by kernel_rfl) (fun _ _ _ h => h) (.inr hS) (.inl ⟨by rfl, by intro _ _; go_simp; with_reducible rfl⟩) ?_
                      try simp only [Act.put, List.setIfInBounds_toArray, List.set_cons_zero, List.set_cons_succ]
                      refine takeW (i := 3) rfl (by kernel_rfl) (by kernel_rfl) (by kernel_rfl) (by kernel_rfl) (fun _ _ _ h => h) (.inr hS) (.inl ⟨by rfl, by intro _ _; go_simp; with_reducible rfl⟩) ?_
                      try simp only [Act.put, List.setIfInBounds_toArray, List.set_cons_zero, List.set_cons_succ]
                      refine takeW (i := 4) rfl (by kernel_rfl) (by kernel_rfl) (by kernel_rfl) (by kernel_rfl) (fun _ _ _ h => h) (.inr hS) (.inl ⟨by rfl, by intro _ _; go_simp; with_reducible rfl⟩) ?_
                      try simp only [Act.put, List.setIfInBounds_toArray, List.set_cons_zero, List.set_cons_succ]
                      refine takeW (i := 5) rfl (by kernel_rfl) (by kernel_rfl) (by kernel_rfl) (by kernel_rfl) (fun _ _ _ h => h) (.inr hS) (.inl ⟨by rfl, by intro _ _; go_simp; with_reducible rfl⟩) ?_
                      try simp only [Act.put, List.setIfInBounds_toArray, List.set_cons_zero, List.set_cons_succ]
                      refine takeL (i := 6) rfl (by kernel_rfl) (by kernel_rfl) (by kernel_rfl) (by kernel_rfl) (by kernel_rfl) (by kernel_rfl) (by kernel_rfl) (fun _ _ _ h => h) hS (.inl ⟨by rfl, by intro _ hSw; (try dsimp only at hSw); go_simp; with_reducible rfl⟩) ?_
                      try simp only [Act.put, List.setIfInBounds_toArray, List.set_cons_zero, List.set_cons_succ]
                      refine takeW (i := 7) rfl (by kernel_rfl) (by kernel_rfl) (by kernel_rfl) (by kernel_rfl) (fun _ _ _ h => h) (.inr hS) (.inl ⟨by rfl, by intro _ _; go_simp; with_reducible rfl⟩) ?_
                      try simp only [Act.put, List.setIfInBounds_toArray, List.set_cons_zero, List.set_cons_succ]
                      refine readyG (rs := [8]) (by kernel_rfl) (by simp) (consG rfl (fun K hK => ?_) nilG)
                      go_simp
                      have hbA := fun o : Obj => (((Below.refl V4.heap.size V4).alloc (Nat.le_refl _) o).drew : Below V4.heap.size V4 _)
                      refine hK.out _ _ (.inr ⟨below_cell' (hbA _) (World.block_lt_of_cell? V4 _ c2) c2, below_cell' (hbA _) (World.block_lt_of_cell? V4 _ x0) x0⟩) ?_
                      clear hK K hS
                      refine readyG (rs := [9]) (by kernel_rfl) (by simp) (consG rfl (fun K hK => ?_) nilG)
                      refine step_grewB _ rfl _ _ _ _ rfl w3.heap.size 54 ig _ 3 56 Try.underlying26 HG.out.1 HG.out.2.1 HG.out.2.2.1 HG.out.2.2.2.1 rfl (.slice q1 q2 q3) Lp.length (Lp.flatMap PaV.cells) rfl (ownsRow_below (refp_base HRV4.out) (((Below.refl _ _).alloc (Nat.le_refl _) _).drew)) _ 1 [.int .u64 (xa : Int), .slice none 0 0, .slice none 0 0] rfl (src_laidDB _ Try.underlying26 [.int .u64 (xa : Int), .slice none 0 0, .slice none 0 0] 1 rfl (by simp [Value.oneCell']) (0, 0) rfl) (Nat.le_trans (show Lp.length + 1 ≤ 100001 by have := HV.out.2.2.2.2.1; omega) (by decide)) (by have := HV.out.2.2.2.2.1; omega) (by have := (HRV4.out).size; simp; omega) ?_
                      intro v8 W8 ho8 hg8
                      have hg8' := Grew.under (((Below.refl _ _).alloc (Nat.le_refl _) _).drew : Below V4.heap.size V4 _) hg8
                      have hfin := (HRV4.out).pushP (W1 := V4) (Below.refl _ _) hg8' ho8
                      obtain ⟨p8, n8, c8, rfl⟩ := own_form ho8
                      have k2 := hg8'.cell c2 hvX
                      have hS : (fun W : World => W.cell? ⟨w3.heap.size, 2, none⟩ = some (.slice q1 q2 q3) ∧ W.cell? ⟨gx, ox + i * 3, none⟩ = some (.int .u64 (xa : Int))) W8 := ⟨k2, hg8'.cell x0 hvx⟩
                      have kf2 : W8.frozen? ⟨w3.heap.size, 2, none⟩ = false := frozen_of_row W8 w3.heap.size 2 _ _ ((hg8'.block (HRV4.out).row.lt hvX).trans (HRV4.out).row)
                      have HRV5 := hid hfin
                      clear ho8 hg8 hg8' hfin c2 x0 x1 x2 hvX hvx cf2 hbA
                      refine hK.out _ _ (.inr hS) ?_
                      clear hK K
                      try simp only [Act.put, List.setIfInBounds_toArray, List.set_cons_zero, List.set_cons_succ]
                      refine takeW (i := 10) rfl (by kernel_rfl) (by kernel_rfl) (by kernel_rfl) (by kernel_rfl) (fun _ _ _ h => h) (.inr hS) (.inl ⟨by rfl, by intro _ _; go_simp; with_reducible rfl⟩) ?_
                      try simp only [Act.put, List.setIfInBounds_toArray, List.set_cons_zero, List.set_cons_succ]
                      refine readyG (rs := [11]) (by kernel_rfl) (by simp) (consG rfl (fun K hK => ?_) nilG)
                      go_simp
                      refine hK.out _ _ (.inl (by kernel_rfl)) ?_
                      clear hK K k2 kf2 hS
                      refine doneG (by kernel_rfl) ?_ _
                      obtain ⟨V5, hV5⟩ : ∃ W', W' = W8.setCell ⟨w3.heap.size, 2, none⟩ (.slice p8 n8 c8) := ⟨_, rfl⟩
                      rw [← hV5] at HRV5 ⊢
                      have HWV5 := hid hV5.symm
                      clear hV5
                      obtain ⟨init, hinit⟩ : ∃ l, l = Lp := ⟨_, rfl⟩
                      rw [← hinit] at HRV5
                      obtain ⟨za, hza⟩ : ∃ a, a = xa := ⟨_, rfl⟩
                      rw [← hza] at HRV5
                      have HPF : Hid (init.map PaV.m ++ [⟨za, [] ++ [xb], [] ++ [yb]⟩] = pushD (Lp.map PaV.m) ⟨xa, xb, yb⟩) := by rw [hinit, hza]; exact HPU.out.symm
                      have hil : init.length + 1 ≤ 100000 := by rw [hinit]; have := HV.out.2.2.2.2.1; omega
                      obtain ⟨g, cap, cur, hgv, -, -⟩ := own3_rows paLen HRV5.out.p.own (i := init.length) (x := ⟨za, none, 0, [], none, 0, []⟩) (by simp)
                      obtain ⟨e1, hM⟩ : p8 = some ⟨g, 0, none⟩ ∧ n8 = (init ++ [(⟨za, none, 0, [], none, 0, []⟩ : PaV)]).length := by cases hgv; exact ⟨rfl, rfl⟩
                      have hnM : n8 = q2 + 1 := by have h2 := Hq2.out; rw [hM, hinit, List.length_append]; simp; omega
                      subst e1
                      have HRs : Hid (RefV (fun _ => True) w3.heap.size w3.heap.size w3 V5 (.slice l1 l2 l3) (.slice g1 g2 g3) (.slice (some ⟨g, 0, none⟩) (init ++ [(⟨za, none, 0, [], none, 0, []⟩ : PaV)]).length c8) Cl Cg (init ++ [(⟨za, none, 0, [], none, 0, []⟩ : PaV)])) := by rw [← hM]; exact HRV5
                      have hzo9 : ([] : List UInt8).length ≤ 140737488355328 - 1 := Nat.zero_le _
                      have hzw9 : ([] : List UInt8).length ≤ 140737488355328 - 1 := Nat.zero_le _
                      have hwn : IntKind.i64.wrap ((q2 : Int) + 1) = (n8 : Int) := (IntWalk.i64_in _ (by have := HV.out.2.2.2.2.1; have := Hq2.out; omega)).trans (by omega)
                      clear hinit hza hnM hgv
                      have hMi : n8 = init.length + 1 := by rw [hM, List.length_append]; rfl
                      have hMz : ∀ z : PaV, n8 = (init ++ [z]).length := fun z => by rw [hMi, List.length_append]; rfl
                      have hwl2 : IntKind.i64.wrap ((n8 : Int) - 1) = (init.length : Int) := (IntWalk.i64_in _ (by omega)).trans (by omega)
                      have m1 : (0 : Int) ≤ (init.length : Int) := by omega
                      have m2 : (init.length : Int) < (n8 : Int) := by omega
                      have HM := hid (And.intro hMz (And.intro hMi (And.intro hil (And.intro hzo9 hzw9))))
                      clear hM hMi hMz hil hzo9 hzw9
                      go_upto_region 24 with fail
                      obtain ⟨zn_1, hzn_1⟩ : ∃ n, n = [].length := ⟨_, rfl⟩
                      obtain ⟨x0, x1, x2⟩ := HXc.out V5 (HRs.out).bel
                      have c2 : V5.cell? ⟨w3.heap.size, 2, none⟩ = some (.slice (some ⟨g, 0, none⟩) n8 c8) := by rw [HM.out.1 (⟨za, none, 0, [], none, 0, []⟩ : PaV)]; exact (HRs.out).row.cell 2
                      obtain ⟨hatd, cur, hcur⟩ := (HRs.out).p.atD
                      have k7 : V5.cell? ⟨g, init.length * 3 + 1, none⟩ = some (.slice none zn_1 0) := by rw [hzn_1]; exact hatd.c1
                      have hoz : OB V5 0 5 (.slice none zn_1 0) [] := by rw [hzn_1]; exact (HRs.out).p.e1 (⟨za, none, 0, [], none, 0, []⟩ : PaV) (by simp)
                      have hub : ∀ q, (Value.slice none zn_1 0).ownBlock = some q → PaV.blk (⟨za, none, 0, [], none, 0, []⟩ : PaV) q := fun q hq => by rw [hzn_1] at hq; exact .inl hq
                      have hbk : ∀ q, (Value.slice none zn_1 0).ownBlock = some q → w3.heap.size ≤ q ∧ q ≠ w3.heap.size ∧ q ≠ g := fun q hq =>
                        have h1 := (HRs.out).dp q (.inr ⟨(⟨za, none, 0, [], none, 0, []⟩ : PaV), by simp, hub q hq⟩)
                        ⟨h1.1, h1.2, fun e => ((HRs.out).p.mx (⟨za, none, 0, [], none, 0, []⟩ : PaV) (by simp) q (hub q hq)).2 (by rw [e]; rfl)⟩
                      have hgl : g < V5.heap.size := (HRs.out).p.bltG g (.inl rfl)
                      have hXl : w3.heap.size < V5.heap.size := (HRs.out).row.lt
                      have HZ_1 := hid (And.intro hoz (And.intro hub (And.intro hbk (And.intro hcur (And.intro hgl (And.intro hzn_1 hXl))))))
                      clear hatd hoz hub hbk hcur hgl hzn_1 hXl
                      refine regionG (fun W : World => W.cell? ⟨w3.heap.size, 2, none⟩ = some (.slice (some ⟨g, 0, none⟩) n8 c8) ∧ W.cell? ⟨g, init.length * 3 + 1, none⟩ = some (.slice none zn_1 0) ∧ W.cell? ⟨gx, ox + i * 3 + 2, none⟩ = some (.int .u8 (xb.toNat : Int))) [20] (by kernel_rfl) ?_
                      have hS : (fun W : World => W.cell? ⟨w3.heap.size, 2, none⟩ = some (.slice (some ⟨g, 0, none⟩) n8 c8) ∧ W.cell? ⟨g, init.length * 3 + 1, none⟩ = some (.slice none zn_1 0) ∧ W.cell? ⟨gx, ox + i * 3 + 2, none⟩ = some (.int .u8 (xb.toNat : Int))) V5.drew := ⟨c2, k7, x2⟩
                      refine takeW (i := 0) rfl (by kernel_rfl) (by kernel_rfl) (by kernel_rfl) (by kernel_rfl) (fun _ _ _ h => h) (.inr hS) (.inl ⟨by rfl, by intro _ _; go_simp; with_reducible rfl⟩) ?_
                      try simp only [Act.put, List.setIfInBounds_toArray, List.set_cons_zero, List.set_cons_succ]
                      refine takeL (i := 1) rfl (by kernel_rfl) (by kernel_rfl) (by kernel_rfl) (by kernel_rfl) (by kernel_rfl) (by kernel_rfl) (by kernel_rfl) (fun _ _ _ h => h) hS (.inl ⟨by rfl, by intro _ hSw; (try dsimp only at hSw); go_simp; with_reducible rfl⟩) ?_
                      try simp only [Act.put, List.setIfInBounds_toArray, List.set_cons_zero, List.set_cons_succ]
                      refine takeW (i := 2) rfl (by kernel_rfl) (by kernel_rfl) (by kernel_rfl) (by kernel_rfl) (fun _ _ _ h => h) (.inr hS) (.inl ⟨by rfl, by intro _ _; go_simp; with_reducible rfl⟩) ?_
                      try simp only [Act.put, List.setIfInBounds_toArray, List.set_cons_zero, List.set_cons_succ]
                      refine takeW (i := 3) rfl (by kernel_rfl) (by kernel_rfl) (by kernel_rfl) (by kernel_rfl) (fun _ _ _ h => h) (.inr hS) (.inl ⟨by rfl, by intro _ _; go_simp; with_reducible rfl⟩) ?_
                      try simp only [Act.put, List.setIfInBounds_toArray, List.set_cons_zero, List.set_cons_succ]
                      refine takeW (i := 4) rfl (by kernel_rfl) (by kernel_rfl) (by kernel_rfl) (by kernel_rfl) (fun _ _ _ h => h) (.inr hS) (.inl ⟨by rfl, by intro _ _; go_simp; with_reducible rfl⟩) ?_
                      try simp only [Act.put, List.setIfInBounds_toArray, List.set_cons_zero, List.set_cons_succ]
                      refine takeL (i := 5) rfl (by kernel_rfl) (by kernel_rfl) (by kernel_rfl) (by kernel_rfl) (by kernel_rfl) (by kernel_rfl) (by kernel_rfl) (fun _ _ _ h => h) hS (.inl ⟨by rfl, by intro _ hSw; (try dsimp only at hSw); go_simp; with_reducible rfl⟩) ?_
                      try simp only [Act.put, List.setIfInBounds_toArray, List.set_cons_zero, List.set_cons_succ]
                      refine takeW (i := 6) rfl (by kernel_rfl) (by kernel_rfl) (by kernel_rfl) (by kernel_rfl) (fun _ _ _ h => h) (.inr hS) (.inl ⟨by rfl, by intro _ _; go_simp; with_reducible rfl⟩) ?_
                      try simp only [Act.put, List.setIfInBounds_toArray, List.set_cons_zero, List.set_cons_succ]
                      refine takeW (i := 7) rfl (by kernel_rfl) (by kernel_rfl) (by kernel_rfl) (by kernel_rfl) (fun _ _ _ h => h) (.inr hS) (.inl ⟨by rfl, by intro _ _; go_simp; with_reducible rfl⟩) ?_
                      try simp only [Act.put, List.setIfInBounds_toArray, List.set_cons_zero, List.set_cons_succ]
                      refine takeW (i := 8) rfl (by kernel_rfl) (by kernel_rfl) (by kernel_rfl) (by kernel_rfl) (fun _ _ _ h => h) (.inr hS) (.inl ⟨by rfl, by intro _ _; go_simp; with_reducible rfl⟩) ?_
                      try simp only [Act.put, List.setIfInBounds_toArray, List.set_cons_zero, List.set_cons_succ]
                      refine takeW (i := 9) rfl (by kernel_rfl) (by kernel_rfl) (by kernel_rfl) (by kernel_rfl) (fun _ _ _ h => h) (.inr hS) (.inl ⟨by rfl, by intro _ _; go_simp; with_reducible rfl⟩) ?_
                      try simp only [Act.put, List.setIfInBounds_toArray, List.set_cons_zero, List.set_cons_succ]
                      refine takeL (i := 10) rfl (by kernel_rfl) (by kernel_rfl) (by kernel_rfl) (by kernel_rfl) (by kernel_rfl) (by kernel_rfl) (by kernel_rfl) (fun _ _ _ h => h) hS (.inl ⟨by rfl, by intro _ hSw; (try dsimp only at hSw); go_simp; with_reducible rfl⟩) ?_
                      try simp only [Act.put, List.setIfInBounds_toArray, List.set_cons_zero, List.set_cons_succ]
                      refine takeW (i := 11) rfl (by kernel_rfl) (by kernel_rfl) (by kernel_rfl) (by kernel_rfl) (fun _ _ _ h => h) (.inr hS) (.inl ⟨by rfl, by intro _ _; go_simp; with_reducible rfl⟩) ?_
                      try simp only [Act.put, List.setIfInBounds_toArray, List.set_cons_zero, List.set_cons_succ]
                      refine takeW (i := 12) rfl (by kernel_rfl) (by kernel_rfl) (by kernel_rfl) (by kernel_rfl) (fun _ _ _ h => h) (.inr hS) (.inl ⟨by rfl, by intro _ _; go_simp; with_reducible rfl⟩) ?_
                      try simp only [Act.put, List.setIfInBounds_toArray, List.set_cons_zero, List.set_cons_succ]
                      refine takeW (i := 13) rfl (by kernel_rfl) (by kernel_rfl) (by kernel_rfl) (by kernel_rfl) (fun _ _ _ h => h) (.inr hS) (.inl ⟨by rfl, by intro _ _; go_simp; with_reducible rfl⟩) ?_
                      try simp only [Act.put, List.setIfInBounds_toArray, List.set_cons_zero, List.set_cons_succ]
                      refine takeW (i := 14) rfl (by kernel_rfl) (by kernel_rfl) (by kernel_rfl) (by kernel_rfl) (fun _ _ _ h => h) (.inr hS) (.inl ⟨by rfl, by intro _ _; go_simp; with_reducible rfl⟩) ?_
                      try simp only [Act.put, List.setIfInBounds_toArray, List.set_cons_zero, List.set_cons_succ]
                      refine takeL (i := 15) rfl (by kernel_rfl) (by kernel_rfl) (by kernel_rfl) (by kernel_rfl) (by kernel_rfl) (by kernel_rfl) (by kernel_rfl) (fun _ _ _ h => h) hS (.inl ⟨by rfl, by intro _ hSw; (try dsimp only at hSw); go_simp; with_reducible rfl⟩) ?_
                      try simp only [Act.put, List.setIfInBounds_toArray, List.set_cons_zero, List.set_cons_succ]
                      refine readyG (rs := [16]) (by kernel_rfl) (by simp) (consG rfl (fun K hK => ?_) nilG)
                      go_simp
                      have hbA := fun o : Obj => (((Below.refl V5.heap.size V5).alloc (Nat.le_refl _) o).drew : Below V5.heap.size V5 _)
                      refine hK.out _ _ (.inr ⟨below_cell' (hbA _) (World.block_lt_of_cell? V5 _ c2) c2, below_cell' (hbA _) (World.block_lt_of_cell? V5 _ k7) k7, below_cell' (hbA _) (World.block_lt_of_cell? V5 _ x2) x2⟩) ?_
                      clear hK K hS
                      refine readyG (rs := [17]) (by kernel_rfl) (by simp) (consG rfl (fun K hK => ?_) nilG)
                      refine step_bytes HG.out.2.2.2.2 _ rfl _ _ _ rfl 0 (.slice none zn_1 0) [] rfl (OB.below HZ_1.out.1 (((Below.refl _ _).alloc (Nat.le_refl _) _).drew)) _ [xb] rfl (src_one (cl0 _ _ _)) (by have := HM.out.2.2.2.1; simp <;> omega) (Nat.zero_le _) ?_
                      intro v8_1 W8_1 ho8_1 hg8_1
                      have hg8_1q := Grew.under (((Below.refl _ _).alloc (Nat.le_refl _) _).drew : Below V5.heap.size V5 _) hg8_1
                      obtain ⟨p8_1, c8_1, hv8_1⟩ := ho8_1.form
                      obtain ⟨n8_1, hn8_1⟩ : ∃ n, n = ([] ++ [xb]).length := ⟨_, rfl⟩
                      rw [← hn8_1] at hv8_1
                      subst hv8_1
                      have hS : (fun W : World => W.cell? ⟨w3.heap.size, 2, none⟩ = some (.slice (some ⟨g, 0, none⟩) n8 c8) ∧ W.cell? ⟨g, init.length * 3 + 1, none⟩ = some (.slice none zn_1 0) ∧ W.cell? ⟨gx, ox + i * 3 + 2, none⟩ = some (.int .u8 (xb.toNat : Int))) W8_1 := ⟨hg8_1q.cell c2 (fun e => (HZ_1.out.2.2.1 _ e).2.1 rfl), hg8_1q.cell k7 (fun e => (HZ_1.out.2.2.1 _ e).2.2 rfl), hg8_1q.cell x2 (fun e => by have := (HZ_1.out.2.2.1 _ e).1; have := HE.out.2.2.2.1; omega)⟩
                      have k8_1 := hS.2.1
                      have kf8_1 : W8_1.frozen? ⟨g, init.length * 3 + 1, none⟩ = false := frozen_of_row W8_1 g _ _ _ ((hg8_1q.block HZ_1.out.2.2.2.2.1 (fun e => (HZ_1.out.2.2.1 _ e).2.2 rfl)).trans HZ_1.out.2.2.2.1)
                      have hfin : RefV (fun _ => True) w3.heap.size w3.heap.size w3 (W8_1.setCell ⟨g, init.length * 3 + 1, none⟩ (.slice p8_1 n8_1 c8_1)) (.slice l1 l2 l3) (.slice g1 g2 g3) (.slice (some ⟨g, 0, none⟩) (init ++ [(⟨za, p8_1, c8_1, [] ++ [xb], none, 0, []⟩ : PaV)]).length c8) Cl Cg (init ++ [(⟨za, p8_1, c8_1, [] ++ [xb], none, 0, []⟩ : PaV)]) := by
                        have hll : (init ++ [(⟨za, none, 0, [], none, 0, []⟩ : PaV)]).length = (init ++ [(⟨za, p8_1, c8_1, [] ++ [xb], none, 0, []⟩ : PaV)]).length := by rw [List.length_append, List.length_append]; rfl
                        have e1 := HZ_1.out.2.2.2.2.2.1
                        subst e1
                        subst hn8_1
                        rw [← hll]
                        exact (HRs.out).more (W1 := V5) (x' := (⟨za, p8_1, c8_1, [] ++ [xb], none, 0, []⟩ : PaV)) (c := 1) (Below.refl _ _) hg8_1q HZ_1.out.2.1 ho8_1 (by decide) rfl (.inl ⟨rfl, rfl, rfl, rfl, rfl⟩)
                      have HRW24 := hid hfin
                      have HN8_1 := hid hn8_1
                      clear ho8_1 hg8_1 hg8_1q hfin hn8_1 c2 k7 x0 x1 x2 hbA
                      refine hK.out _ _ (.inr hS) ?_
                      clear hK K
                      try simp only [Act.put, List.setIfInBounds_toArray, List.set_cons_zero, List.set_cons_succ]
                      refine takeW (i := 18) rfl (by kernel_rfl) (by kernel_rfl) (by kernel_rfl) (by kernel_rfl) (fun _ _ _ h => h) (.inr hS) (.inl ⟨by rfl, by intro _ _; go_simp; with_reducible rfl⟩) ?_
                      try simp only [Act.put, List.setIfInBounds_toArray, List.set_cons_zero, List.set_cons_succ]
                      refine takeW (i := 19) rfl (by kernel_rfl) (by kernel_rfl) (by kernel_rfl) (by kernel_rfl) (fun _ _ _ h => h) (.inr hS) (.inl ⟨by rfl, by intro _ _; go_simp; with_reducible rfl⟩) ?_
                      try simp only [Act.put, List.setIfInBounds_toArray, List.set_cons_zero, List.set_cons_succ]
                      refine readyG (rs := [20]) (by kernel_rfl) (by simp) (consG rfl (fun K hK => ?_) nilG)
                      go_simp
                      refine hK.out _ _ (.inl (by kernel_rfl)) ?_
                      clear hK K k8_1 kf8_1 hS
                      refine doneG (by kernel_rfl) ?_ _
                      obtain ⟨W24, hW24⟩ : ∃ W', W' = W8_1.setCell ⟨g, init.length * 3 + 1, none⟩ (.slice p8_1 n8_1 c8_1) := ⟨_, rfl⟩
                      rw [← hW24] at HRW24
                      have HWW24 := hid hW24.symm
                      clear hW24
                      rw [HWW24.out]
                      go_upto_region 25 with fail
                      obtain ⟨zn_2, hzn_2⟩ : ∃ n, n = [].length := ⟨_, rfl⟩
                      obtain ⟨y0, y1, y2⟩ := HYc.out W24 (HRW24.out).bel
                      have c2 : W24.cell? ⟨w3.heap.size, 2, none⟩ = some (.slice (some ⟨g, 0, none⟩) n8 c8) := by rw [HM.out.1 (⟨za, p8_1, c8_1, [] ++ [xb], none, 0, []⟩ : PaV)]; exact (HRW24.out).row.cell 2
                      obtain ⟨hatd, cur, hcur⟩ := (HRW24.out).p.atD
                      have k7 : W24.cell? ⟨g, init.length * 3 + 2, none⟩ = some (.slice none zn_2 0) := by rw [hzn_2]; exact hatd.c2
                      have hoz : OB W24 0 5 (.slice none zn_2 0) [] := by rw [hzn_2]; exact (HRW24.out).p.e2 (⟨za, p8_1, c8_1, [] ++ [xb], none, 0, []⟩ : PaV) (by simp)
                      have hub : ∀ q, (Value.slice none zn_2 0).ownBlock = some q → PaV.blk (⟨za, p8_1, c8_1, [] ++ [xb], none, 0, []⟩ : PaV) q := fun q hq => by rw [hzn_2] at hq; exact .inr hq
                      have hbk : ∀ q, (Value.slice none zn_2 0).ownBlock = some q → w3.heap.size ≤ q ∧ q ≠ w3.heap.size ∧ q ≠ g := fun q hq =>
                        have h1 := (HRW24.out).dp q (.inr ⟨(⟨za, p8_1, c8_1, [] ++ [xb], none, 0, []⟩ : PaV), by simp, hub q hq⟩)
                        ⟨h1.1, h1.2, fun e => ((HRW24.out).p.mx (⟨za, p8_1, c8_1, [] ++ [xb], none, 0, []⟩ : PaV) (by simp) q (hub q hq)).2 (by rw [e]; rfl)⟩
                      have hgl : g < W24.heap.size := (HRW24.out).p.bltG g (.inl rfl)
                      have hXl : w3.heap.size < W24.heap.size := (HRW24.out).row.lt
                      have HZ_2 := hid (And.intro hoz (And.intro hub (And.intro hbk (And.intro hcur (And.intro hgl (And.intro hzn_2 hXl))))))
                      clear hatd hoz hub hbk hcur hgl hzn_2 hXl
                      refine regionG (fun W : World => W.cell? ⟨w3.heap.size, 2, none⟩ = some (.slice (some ⟨g, 0, none⟩) n8 c8) ∧ W.cell? ⟨g, init.length * 3 + 2, none⟩ = some (.slice none zn_2 0) ∧ W.cell? ⟨gy, oy + k * 3 + 2, none⟩ = some (.int .u8 (yb.toNat : Int))) [20] (by kernel_rfl) ?_
                      have hS : (fun W : World => W.cell? ⟨w3.heap.size, 2, none⟩ = some (.slice (some ⟨g, 0, none⟩) n8 c8) ∧ W.cell? ⟨g, init.length * 3 + 2, none⟩ = some (.slice none zn_2 0) ∧ W.cell? ⟨gy, oy + k * 3 + 2, none⟩ = some (.int .u8 (yb.toNat : Int))) W24.drew := ⟨c2, k7, y2⟩
                      refine takeW (i := 0) rfl (by kernel_rfl) (by kernel_rfl) (by kernel_rfl) (by kernel_rfl) (fun _ _ _ h => h) (.inr hS) (.inl ⟨by rfl, by intro _ _; go_simp; with_reducible rfl⟩) ?_
                      try simp only [Act.put, List.setIfInBounds_toArray, List.set_cons_zero, List.set_cons_succ]
                      refine takeL (i := 1) rfl (by kernel_rfl) (by kernel_rfl) (by kernel_rfl) (by kernel_rfl) (by kernel_rfl) (by kernel_rfl) (by kernel_rfl) (fun _ _ _ h => h) hS (.inl ⟨by rfl, by intro _ hSw; (try dsimp only at hSw); go_simp; with_reducible rfl⟩) ?_
                      try simp only [Act.put, List.setIfInBounds_toArray, List.set_cons_zero, List.set_cons_succ]
                      refine takeW (i := 2) rfl (by kernel_rfl) (by kernel_rfl) (by kernel_rfl) (by kernel_rfl) (fun _ _ _ h => h) (.inr hS) (.inl ⟨by rfl, by intro _ _; go_simp; with_reducible rfl⟩) ?_
                      try simp only [Act.put, List.setIfInBounds_toArray, List.set_cons_zero, List.set_cons_succ]
                      refine takeW (i := 3) rfl (by kernel_rfl) (by kernel_rfl) (by kernel_rfl) (by kernel_rfl) (fun _ _ _ h => h) (.inr hS) (.inl ⟨by rfl, by intro _ _; go_simp; with_reducible rfl⟩) ?_
                      try simp only [Act.put, List.setIfInBounds_toArray, List.set_cons_zero, List.set_cons_succ]
                      refine takeW (i := 4) rfl (by kernel_rfl) (by kernel_rfl) (by kernel_rfl) (by kernel_rfl) (fun _ _ _ h => h) (.inr hS) (.inl ⟨by rfl, by intro _ _; go_simp; with_reducible rfl⟩) ?_
                      try simp only [Act.put, List.setIfInBounds_toArray, List.set_cons_zero, List.set_cons_succ]
                      refine takeL (i := 5) rfl (by kernel_rfl) (by kernel_rfl) (by kernel_rfl) (by kernel_rfl) (by kernel_rfl) (by kernel_rfl) (by kernel_rfl) (fun _ _ _ h => h) hS (.inl ⟨by rfl, by intro _ hSw; (try dsimp only at hSw); go_simp; with_reducible rfl⟩) ?_
                      try simp only [Act.put, List.setIfInBounds_toArray, List.set_cons_zero, List.set_cons_succ]
                      refine takeW (i := 6) rfl (by kernel_rfl) (by kernel_rfl) (by kernel_rfl) (by kernel_rfl) (fun _ _ _ h => h) (.inr hS) (.inl ⟨by rfl, by intro _ _; go_simp; with_reducible rfl⟩) ?_
                      try simp only [Act.put, List.setIfInBounds_toArray, List.set_cons_zero, List.set_cons_succ]
                      refine takeW (i := 7) rfl (by kernel_rfl) (by kernel_rfl) (by kernel_rfl) (by kernel_rfl) (fun _ _ _ h => h) (.inr hS) (.inl ⟨by rfl, by intro _ _; go_simp; with_reducible rfl⟩) ?_
                      try simp only [Act.put, List.setIfInBounds_toArray, List.set_cons_zero, List.set_cons_succ]
                      refine takeW (i := 8) rfl (by kernel_rfl) (by kernel_rfl) (by kernel_rfl) (by kernel_rfl) (fun _ _ _ h => h) (.inr hS) (.inl ⟨by rfl, by intro _ _; go_simp; with_reducible rfl⟩) ?_
                      try simp only [Act.put, List.setIfInBounds_toArray, List.set_cons_zero, List.set_cons_succ]
                      refine takeW (i := 9) rfl (by kernel_rfl) (by kernel_rfl) (by kernel_rfl) (by kernel_rfl) (fun _ _ _ h => h) (.inr hS) (.inl ⟨by rfl, by intro _ _; go_simp; with_reducible rfl⟩) ?_
                      try simp only [Act.put, List.setIfInBounds_toArray, List.set_cons_zero, List.set_cons_succ]
                      refine takeL (i := 10) rfl (by kernel_rfl) (by kernel_rfl) (by kernel_rfl) (by kernel_rfl) (by kernel_rfl) (by kernel_rfl) (by kernel_rfl) (fun _ _ _ h => h) hS (.inl ⟨by rfl, by intro _ hSw; (try dsimp only at hSw); go_simp; with_reducible rfl⟩) ?_
                      try simp only [Act.put, List.setIfInBounds_toArray, List.set_cons_zero, List.set_cons_succ]
                      refine takeW (i := 11) rfl (by kernel_rfl) (by kernel_rfl) (by kernel_rfl) (by kernel_rfl) (fun _ _ _ h => h) (.inr hS) (.inl ⟨by rfl, by intro _ _; go_simp; with_reducible rfl⟩) ?_
                      try simp only [Act.put, List.setIfInBounds_toArray, List.set_cons_zero, List.set_cons_succ]
                      refine takeW (i := 12) rfl (by kernel_rfl) (by kernel_rfl) (by kernel_rfl) (by kernel_rfl) (fun _ _ _ h => h) (.inr hS) (.inl ⟨by rfl, by intro _ _; go_simp; with_reducible rfl⟩) ?_
                      try simp only [Act.put, List.setIfInBounds_toArray, List.set_cons_zero, List.set_cons_succ]
                      refine takeW (i := 13) rfl (by kernel_rfl) (by kernel_rfl) (by kernel_rfl) (by kernel_rfl) (fun _ _ _ h => h) (.inr hS) (.inl ⟨by rfl, by intro _ _; go_simp; with_reducible rfl⟩) ?_
                      try simp only [Act.put, List.setIfInBounds_toArray, List.set_cons_zero, List.set_cons_succ]
                      refine takeW (i := 14) rfl (by kernel_rfl) (by kernel_rfl) (by kernel_rfl) (by kernel_rfl) (fun _ _ _ h => h) (.inr hS) (.inl ⟨by rfl, by intro _ _; go_simp; with_reducible rfl⟩) ?_
                      try simp only [Act.put, List.setIfInBounds_toArray, List.set_cons_zero, List.set_cons_succ]
                      refine takeL (i := 15) rfl (by kernel_rfl) (by kernel_rfl) (by kernel_rfl) (by kernel_rfl) (by kernel_rfl) (by kernel_rfl) (by kernel_rfl) (fun _ _ _ h => h) hS (.inl ⟨by rfl, by intro _ hSw; (try dsimp only at hSw); go_simp; with_reducible rfl⟩) ?_
                      try simp only [Act.put, List.setIfInBounds_toArray, List.set_cons_zero, List.set_cons_succ]
                      refine readyG (rs := [16]) (by kernel_rfl) (by simp) (consG rfl (fun K hK => ?_) nilG)
                      go_simp
                      have hbA := fun o : Obj => (((Below.refl W24.heap.size W24).alloc (Nat.le_refl _) o).drew : Below W24.heap.size W24 _)
                      refine hK.out _ _ (.inr ⟨below_cell' (hbA _) (World.block_lt_of_cell? W24 _ c2) c2, below_cell' (hbA _) (World.block_lt_of_cell? W24 _ k7) k7, below_cell' (hbA _) (World.block_lt_of_cell? W24 _ y2) y2⟩) ?_
                      clear hK K hS
                      refine readyG (rs := [17]) (by kernel_rfl) (by simp) (consG rfl (fun K hK => ?_) nilG)
                      refine step_bytes HG.out.2.2.2.2 _ rfl _ _ _ rfl 0 (.slice none zn_2 0) [] rfl (OB.below HZ_2.out.1 (((Below.refl _ _).alloc (Nat.le_refl _) _).drew)) _ [yb] rfl (src_one (cl0 _ _ _)) (by have := HM.out.2.2.2.2; simp <;> omega) (Nat.zero_le _) ?_
                      intro v8_2 W8_2 ho8_2 hg8_2
                      have hg8_2q := Grew.under (((Below.refl _ _).alloc (Nat.le_refl _) _).drew : Below W24.heap.size W24 _) hg8_2
                      obtain ⟨p8_2, c8_2, hv8_2⟩ := ho8_2.form
                      obtain ⟨n8_2, hn8_2⟩ : ∃ n, n = ([] ++ [yb]).length := ⟨_, rfl⟩
                      rw [← hn8_2] at hv8_2
                      subst hv8_2
                      have hS : (fun W : World => W.cell? ⟨w3.heap.size, 2, none⟩ = some (.slice (some ⟨g, 0, none⟩) n8 c8) ∧ W.cell? ⟨g, init.length * 3 + 2, none⟩ = some (.slice none zn_2 0) ∧ W.cell? ⟨gy, oy + k * 3 + 2, none⟩ = some (.int .u8 (yb.toNat : Int))) W8_2 := ⟨hg8_2q.cell c2 (fun e => (HZ_2.out.2.2.1 _ e).2.1 rfl), hg8_2q.cell k7 (fun e => (HZ_2.out.2.2.1 _ e).2.2 rfl), hg8_2q.cell y2 (fun e => by have := (HZ_2.out.2.2.1 _ e).1; have := HE.out.2.2.2.2.1; omega)⟩
                      have k8_2 := hS.2.1
                      have kf8_2 : W8_2.frozen? ⟨g, init.length * 3 + 2, none⟩ = false := frozen_of_row W8_2 g _ _ _ ((hg8_2q.block HZ_2.out.2.2.2.2.1 (fun e => (HZ_2.out.2.2.1 _ e).2.2 rfl)).trans HZ_2.out.2.2.2.1)
                      have hfin : RefV (fun _ => True) w3.heap.size w3.heap.size w3 (W8_2.setCell ⟨g, init.length * 3 + 2, none⟩ (.slice p8_2 n8_2 c8_2)) (.slice l1 l2 l3) (.slice g1 g2 g3) (.slice (some ⟨g, 0, none⟩) (init ++ [(⟨za, p8_1, c8_1, [] ++ [xb], p8_2, c8_2, [] ++ [yb]⟩ : PaV)]).length c8) Cl Cg (init ++ [(⟨za, p8_1, c8_1, [] ++ [xb], p8_2, c8_2, [] ++ [yb]⟩ : PaV)]) := by
                        have hll : (init ++ [(⟨za, p8_1, c8_1, [] ++ [xb], none, 0, []⟩ : PaV)]).length = (init ++ [(⟨za, p8_1, c8_1, [] ++ [xb], p8_2, c8_2, [] ++ [yb]⟩ : PaV)]).length := by rw [List.length_append, List.length_append]; rfl
                        have e1 := HZ_2.out.2.2.2.2.2.1
                        subst e1
                        subst hn8_2
                        rw [← hll]
                        exact (HRW24.out).more (W1 := W24) (x' := (⟨za, p8_1, c8_1, [] ++ [xb], p8_2, c8_2, [] ++ [yb]⟩ : PaV)) (c := 2) (Below.refl _ _) hg8_2q HZ_2.out.2.1 ho8_2 (by decide) rfl (.inr ⟨rfl, rfl, rfl, rfl, rfl⟩)
                      have HRW25 := hid hfin
                      have HN8_2 := hid hn8_2
                      clear ho8_2 hg8_2 hg8_2q hfin hn8_2 c2 k7 y0 y1 y2 hbA
                      refine hK.out _ _ (.inr hS) ?_
                      clear hK K
                      try simp only [Act.put, List.setIfInBounds_toArray, List.set_cons_zero, List.set_cons_succ]
                      refine takeW (i := 18) rfl (by kernel_rfl) (by kernel_rfl) (by kernel_rfl) (by kernel_rfl) (fun _ _ _ h => h) (.inr hS) (.inl ⟨by rfl, by intro _ _; go_simp; with_reducible rfl⟩) ?_
                      try simp only [Act.put, List.setIfInBounds_toArray, List.set_cons_zero, List.set_cons_succ]
                      refine takeW (i := 19) rfl (by kernel_rfl) (by kernel_rfl) (by kernel_rfl) (by kernel_rfl) (fun _ _ _ h => h) (.inr hS) (.inl ⟨by rfl, by intro _ _; go_simp; with_reducible rfl⟩) ?_
                      try simp only [Act.put, List.setIfInBounds_toArray, List.set_cons_zero, List.set_cons_succ]
                      refine readyG (rs := [20]) (by kernel_rfl) (by simp) (consG rfl (fun K hK => ?_) nilG)
                      go_simp
                      refine hK.out _ _ (.inl (by kernel_rfl)) ?_
                      clear hK K k8_2 kf8_2 hS
                      refine doneG (by kernel_rfl) ?_ _
                      obtain ⟨W25, hW25⟩ : ∃ W', W' = W8_2.setCell ⟨g, init.length * 3 + 2, none⟩ (.slice p8_2 n8_2 c8_2) := ⟨_, rfl⟩
                      rw [← hW25] at HRW25
                      have HWW25 := hid hW25.symm
                      clear hW25
                      rw [HWW25.out]
                      have hmap : (init ++ [(⟨za, p8_1, c8_1, [] ++ [xb], p8_2, c8_2, [] ++ [yb]⟩ : PaV)]).map PaV.m = pushD (Lp.map PaV.m) ⟨xa, xb, yb⟩ := by rw [List.map_append]; exact HPF.out
                      have hR := HRW25.out.any (K' := okD) (fun x hx => HN.out.ok x.m (by rw [← hmap]; exact List.mem_map_of_mem hx))
                      have hN2 : RmI xs ys (i + 1) (k + 1) Cl Cg ((init ++ [(⟨za, p8_1, c8_1, [] ++ [xb], p8_2, c8_2, [] ++ [yb]⟩ : PaV)]).map PaV.m) xa := by rw [hmap]; exact HN.out
                      obtain ⟨x0, x1, x2⟩ := HXc.out W25 HRW25.out.bel
                      have HFin := hid (And.intro hR hN2)
                      clear hmap hR hN2
                      go_wp2_with fail
                      exact ⟨⟨i + 1, k + 1, xa, _, _, _, _, by have := HX.out.1; have := HX.out.2; have := HV.out.2.2.2.2.2.1; have := HV.out.2.2.2.2.2.2.1; omega, by have := HX.out.1; have := HX.out.2; have := HV.out.2.2.2.2.2.1; have := HV.out.2.2.2.2.2.2.1; omega, by first | go_num | rfl, by first | go_num | rfl, rfl, HE.out.2.2.2.2.2.1, HFin.out.1, HFin.out.2⟩, by have := HX.out.1; have := HX.out.2; have := HV.out.2.2.2.2.2.1; have := HV.out.2.2.2.2.2.2.1; simp [intOf]; omega⟩
                · as_aux_lemma =>
                    have hq0 : q2 ≠ 0 := fun h => hnew (.inl h)
                    have hxl : xa = last + 1 := by
                      by_cases h : xa = last + 1
                      · exact h
                      · exact absurd (.inr h) hnew
                    have hc0 : ((q2 : Int) == 0) = false := by simp only [beq_eq_false_iff_ne]; omega
                    have hc0' : (q2 == 0) = false := by simp only [beq_eq_false_iff_ne]; omega
                    have hc1 : ((xa : Int) != (last : Int) + 1) = false := by rw [hxl]; simp
                    obtain ⟨init, z, hLz⟩ : ∃ init z, Lp = init ++ [z] := by
                      rcases last_casesD Lp with h | h
                      · rw [h] at hq2; simp at hq2; omega
                      · exact h
                    have hlz : z.at_ + z.old.length = last + 1 := by
                      rcases HV.out.2.1.last with h | ⟨ini, q, h, hq⟩
                      · rw [hLz] at h; simp at h
                      · rw [hLz, List.map_append] at h
                        have := (List.append_inj' h rfl).2
                        simp at this
                        rw [← this] at hq
                        exact hq
                    have hzk := HRV4.out.p.ok z (by rw [hLz]; simp)
                    have HPF : Hid (init.map PaV.m ++ [⟨z.at_, z.old ++ [xb], z.new ++ [yb]⟩] = pushD (Lp.map PaV.m) ⟨xa, xb, yb⟩) := by
                      rw [hLz, List.map_append, show [z].map PaV.m = [z.m] from rfl, pushD_snoc, if_pos (show z.m.at_ + z.m.old.length = xa by rw [hxl]; exact hlz)]
                      exact rfl
                    have hxmm := HE.out.2.2.2.2.2.1
                    have hil : init.length + 1 ≤ 100000 := by have h := HV.out.2.2.2.2.1; rw [hLz, List.length_append] at h; simp at h; omega
                    have hzo9 : z.old.length ≤ 140737488355328 - 1 := by unfold MAXA at hxmm; omega
                    have hzw9 : z.new.length ≤ 140737488355328 - 1 := by unfold MAXA at hxmm; have := hzk.2.1; omega
                    have hRl := HRV4.out.any (K' := fun _ => True) (fun _ _ => trivial)
                    rw [hLz] at hRl
                    obtain ⟨za, zp1, zc1, zo, zp2, zc2, zw⟩ := z
                    dsimp only at HPF hzo9 hzw9
                    obtain ⟨g, cap, cur, hgv, -, -⟩ := own3_rows paLen hRl.p.own (i := init.length) (x := ⟨za, zp1, zc1, zo, zp2, zc2, zw⟩) (by simp)
                    obtain ⟨e1, hM⟩ : q1 = some ⟨g, 0, none⟩ ∧ q2 = (init ++ [(⟨za, zp1, zc1, zo, zp2, zc2, zw⟩ : PaV)]).length := by cases hgv; exact ⟨rfl, rfl⟩
                    subst e1
                    have HRl := hid (show RefV (fun _ => True) w3.heap.size w3.heap.size w3 V4 (.slice l1 l2 l3) (.slice g1 g2 g3) (.slice (some ⟨g, 0, none⟩) (init ++ [(⟨za, zp1, zc1, zo, zp2, zc2, zw⟩ : PaV)]).length q3) Cl Cg (init ++ [(⟨za, zp1, zc1, zo, zp2, zc2, zw⟩ : PaV)]) from by rw [← hM]; exact hRl)
                    have Hnw := hid hnew
                    clear hq0 hxl hLz hlz hzk hxmm hRl hnew hq2 hgv
                    have hMi : q2 = init.length + 1 := by rw [hM, List.length_append]; rfl
                    have hMz : ∀ z : PaV, q2 = (init ++ [z]).length := fun z => by rw [hMi, List.length_append]; rfl
                    have hwl2 : IntKind.i64.wrap ((q2 : Int) - 1) = (init.length : Int) := (IntWalk.i64_in _ (by omega)).trans (by omega)
                    have m1 : (0 : Int) ≤ (init.length : Int) := by omega
                    have m2 : (init.length : Int) < (q2 : Int) := by omega
                    have HM := hid (And.intro hMz (And.intro hMi (And.intro hil (And.intro hzo9 hzw9))))
                    clear hM hMi hMz hil hzo9 hzw9
                    go_upto_region 24 with fail
                    clear cq x0 x1 x2
                    obtain ⟨zn_1, hzn_1⟩ : ∃ n, n = zo.length := ⟨_, rfl⟩
                    obtain ⟨x0, x1, x2⟩ := HXc.out V4 (HRl.out).bel
                    have c2 : V4.cell? ⟨w3.heap.size, 2, none⟩ = some (.slice (some ⟨g, 0, none⟩) q2 q3) := by rw [HM.out.1 (⟨za, zp1, zc1, zo, zp2, zc2, zw⟩ : PaV)]; exact (HRl.out).row.cell 2
                    obtain ⟨hatd, cur, hcur⟩ := (HRl.out).p.atD
                    have k7 : V4.cell? ⟨g, init.length * 3 + 1, none⟩ = some (.slice zp1 zn_1 zc1) := by rw [hzn_1]; exact hatd.c1
                    have hoz : OB V4 0 5 (.slice zp1 zn_1 zc1) zo := by rw [hzn_1]; exact (HRl.out).p.e1 (⟨za, zp1, zc1, zo, zp2, zc2, zw⟩ : PaV) (by simp)
                    have hub : ∀ q, (Value.slice zp1 zn_1 zc1).ownBlock = some q → PaV.blk (⟨za, zp1, zc1, zo, zp2, zc2, zw⟩ : PaV) q := fun q hq => by rw [hzn_1] at hq; exact .inl hq
                    have hbk : ∀ q, (Value.slice zp1 zn_1 zc1).ownBlock = some q → w3.heap.size ≤ q ∧ q ≠ w3.heap.size ∧ q ≠ g := fun q hq =>
                      have h1 := (HRl.out).dp q (.inr ⟨(⟨za, zp1, zc1, zo, zp2, zc2, zw⟩ : PaV), by simp, hub q hq⟩)
                      ⟨h1.1, h1.2, fun e => ((HRl.out).p.mx (⟨za, zp1, zc1, zo, zp2, zc2, zw⟩ : PaV) (by simp) q (hub q hq)).2 (by rw [e]; rfl)⟩
                    have hgl : g < V4.heap.size := (HRl.out).p.bltG g (.inl rfl)
                    have hXl : w3.heap.size < V4.heap.size := (HRl.out).row.lt
                    have HZ_1 := hid (And.intro hoz (And.intro hub (And.intro hbk (And.intro hcur (And.intro hgl (And.intro hzn_1 hXl))))))
                    clear hatd hoz hub hbk hcur hgl hzn_1 hXl
                    refine regionG (fun W : World => W.cell? ⟨w3.heap.size, 2, none⟩ = some (.slice (some ⟨g, 0, none⟩) q2 q3) ∧ W.cell? ⟨g, init.length * 3 + 1, none⟩ = some (.slice zp1 zn_1 zc1) ∧ W.cell? ⟨gx, ox + i * 3 + 2, none⟩ = some (.int .u8 (xb.toNat : Int))) [20] (by kernel_rfl) ?_
                    have hS : (fun W : World => W.cell? ⟨w3.heap.size, 2, none⟩ = some (.slice (some ⟨g, 0, none⟩) q2 q3) ∧ W.cell? ⟨g, init.length * 3 + 1, none⟩ = some (.slice zp1 zn_1 zc1) ∧ W.cell? ⟨gx, ox + i * 3 + 2, none⟩ = some (.int .u8 (xb.toNat : Int))) V4.drew := ⟨c2, k7, x2⟩
                    refine takeW (i := 0) rfl (by kernel_rfl) (by kernel_rfl) (by kernel_rfl) (by kernel_rfl) (fun _ _ _ h => h) (.inr hS) (.inl ⟨by rfl, by intro _ _; go_simp; with_reducible rfl⟩) ?_
                    try simp only [Act.put, List.setIfInBounds_toArray, List.set_cons_zero, List.set_cons_succ]
                    refine takeL (i := 1) rfl (by kernel_rfl) (by kernel_rfl) (by kernel_rfl) (by kernel_rfl) (by kernel_rfl) (by kernel_rfl) (by kernel_rfl) (fun _ _ _ h => h) hS (.inl ⟨by rfl, by intro _ hSw; (try dsimp only at hSw); go_simp; with_reducible rfl⟩) ?_
                    try simp only [Act.put, List.setIfInBounds_toArray, List.set_cons_zero, List.set_cons_succ]
                    refine takeW (i := 2) rfl (by kernel_rfl) (by kernel_rfl) (by kernel_rfl) (by kernel_rfl) (fun _ _ _ h => h) (.inr hS) (.inl ⟨by rfl, by intro _ _; go_simp; with_reducible rfl⟩) ?_
                    try simp only [Act.put, List.setIfInBounds_toArray, List.set_cons_zero, List.set_cons_succ]
                    refine takeW (i := 3) rfl (by kernel_rfl) (by kernel_rfl) (by kernel_rfl) (by kernel_rfl) (fun _ _ _ h => h) (.inr hS) (.inl ⟨by rfl, by intro _ _; go_simp; with_reducible rfl⟩) ?_
                    try simp only [Act.put, List.setIfInBounds_toArray, List.set_cons_zero, List.set_cons_succ]
                    refine takeW (i := 4) rfl (by kernel_rfl) (by kernel_rfl) (by kernel_rfl) (by kernel_rfl) (fun _ _ _ h => h) (.inr hS) (.inl ⟨by rfl, by intro _ _; go_simp; with_reducible rfl⟩) ?_
                    try simp only [Act.put, List.setIfInBounds_toArray, List.set_cons_zero, List.set_cons_succ]
                    refine takeL (i := 5) rfl (by kernel_rfl) (by kernel_rfl) (by kernel_rfl) (by kernel_rfl) (by kernel_rfl) (by kernel_rfl) (by kernel_rfl) (fun _ _ _ h => h) hS (.inl ⟨by rfl, by intro _ hSw; (try dsimp only at hSw); go_simp; with_reducible rfl⟩) ?_
                    try simp only [Act.put, List.setIfInBounds_toArray, List.set_cons_zero, List.set_cons_succ]
                    refine takeW (i := 6) rfl (by kernel_rfl) (by kernel_rfl) (by kernel_rfl) (by kernel_rfl) (fun _ _ _ h => h) (.inr hS) (.inl ⟨by rfl, by intro _ _; go_simp; with_reducible rfl⟩) ?_
                    try simp only [Act.put, List.setIfInBounds_toArray, List.set_cons_zero, List.set_cons_succ]
                    refine takeW (i := 7) rfl (by kernel_rfl) (by kernel_rfl) (by kernel_rfl) (by kernel_rfl) (fun _ _ _ h => h) (.inr hS) (.inl ⟨by rfl, by intro _ _; go_simp; with_reducible rfl⟩) ?_
                    try simp only [Act.put, List.setIfInBounds_toArray, List.set_cons_zero, List.set_cons_succ]
                    refine takeW (i := 8) rfl (by kernel_rfl) (by kernel_rfl) (by kernel_rfl) (by kernel_rfl) (fun _ _ _ h => h) (.inr hS) (.inl ⟨by rfl, by intro _ _; go_simp; with_reducible rfl⟩) ?_
                    try simp only [Act.put, List.setIfInBounds_toArray, List.set_cons_zero, List.set_cons_succ]
                    refine takeW (i := 9) rfl (by kernel_rfl) (by kernel_rfl) (by kernel_rfl) (by kernel_rfl) (fun _ _ _ h => h) (.inr hS) (.inl ⟨by rfl, by intro _ _; go_simp; with_reducible rfl⟩) ?_
                    try simp only [Act.put, List.setIfInBounds_toArray, List.set_cons_zero, List.set_cons_succ]
                    refine takeL (i := 10) rfl (by kernel_rfl) (by kernel_rfl) (by kernel_rfl) (by kernel_rfl) (by kernel_rfl) (by kernel_rfl) (by kernel_rfl) (fun _ _ _ h => h) hS (.inl ⟨by rfl, by intro _ hSw; (try dsimp only at hSw); go_simp; with_reducible rfl⟩) ?_
                    try simp only [Act.put, List.setIfInBounds_toArray, List.set_cons_zero, List.set_cons_succ]
                    refine takeW (i := 11) rfl (by kernel_rfl) (by kernel_rfl) (by kernel_rfl) (by kernel_rfl) (fun _ _ _ h => h) (.inr hS) (.inl ⟨by rfl, by intro _ _; go_simp; with_reducible rfl⟩) ?_
                    try simp only [Act.put, List.setIfInBounds_toArray, List.set_cons_zero, List.set_cons_succ]
                    refine takeW (i := 12) rfl (by kernel_rfl) (by kernel_rfl) (by kernel_rfl) (by kernel_rfl) (fun _ _ _ h => h) (.inr hS) (.inl ⟨by rfl, by intro _ _; go_simp; with_reducible rfl⟩) ?_
                    try simp only [Act.put, List.setIfInBounds_toArray, List.set_cons_zero, List.set_cons_succ]
                    refine takeW (i := 13) rfl (by kernel_rfl) (by kernel_rfl) (by kernel_rfl) (by kernel_rfl) (fun _ _ _ h => h) (.inr hS) (.inl ⟨by rfl, by intro _ _; go_simp; with_reducible rfl⟩) ?_
                    try simp only [Act.put, List.setIfInBounds_toArray, List.set_cons_zero, List.set_cons_succ]
                    refine takeW (i := 14) rfl (by kernel_rfl) (by kernel_rfl) (by kernel_rfl) (by kernel_rfl) (fun _ _ _ h => h) (.inr hS) (.inl ⟨by rfl, by intro _ _; go_simp; with_reducible rfl⟩) ?_
                    try simp only [Act.put, List.setIfInBounds_toArray, List.set_cons_zero, List.set_cons_succ]
                    refine takeL (i := 15) rfl (by kernel_rfl) (by kernel_rfl) (by kernel_rfl) (by kernel_rfl) (by kernel_rfl) (by kernel_rfl) (by kernel_rfl) (fun _ _ _ h => h) hS (.inl ⟨by rfl, by intro _ hSw; (try dsimp only at hSw); go_simp; with_reducible rfl⟩) ?_
                    try simp only [Act.put, List.setIfInBounds_toArray, List.set_cons_zero, List.set_cons_succ]
                    refine readyG (rs := [16]) (by kernel_rfl) (by simp) (consG rfl (fun K hK => ?_) nilG)
                    go_simp
                    have hbA := fun o : Obj => (((Below.refl V4.heap.size V4).alloc (Nat.le_refl _) o).drew : Below V4.heap.size V4 _)
                    refine hK.out _ _ (.inr ⟨below_cell' (hbA _) (World.block_lt_of_cell? V4 _ c2) c2, below_cell' (hbA _) (World.block_lt_of_cell? V4 _ k7) k7, below_cell' (hbA _) (World.block_lt_of_cell? V4 _ x2) x2⟩) ?_
                    clear hK K hS
                    refine readyG (rs := [17]) (by kernel_rfl) (by simp) (consG rfl (fun K hK => ?_) nilG)
                    refine step_bytes HG.out.2.2.2.2 _ rfl _ _ _ rfl 0 (.slice zp1 zn_1 zc1) zo rfl (OB.below HZ_1.out.1 (((Below.refl _ _).alloc (Nat.le_refl _) _).drew)) _ [xb] rfl (src_one (cl0 _ _ _)) (by have := HM.out.2.2.2.1; simp <;> omega) (Nat.zero_le _) ?_
                    intro v8_1 W8_1 ho8_1 hg8_1
                    have hg8_1q := Grew.under (((Below.refl _ _).alloc (Nat.le_refl _) _).drew : Below V4.heap.size V4 _) hg8_1
                    obtain ⟨p8_1, c8_1, hv8_1⟩ := ho8_1.form
                    obtain ⟨n8_1, hn8_1⟩ : ∃ n, n = (zo ++ [xb]).length := ⟨_, rfl⟩
                    rw [← hn8_1] at hv8_1
                    subst hv8_1
                    have hS : (fun W : World => W.cell? ⟨w3.heap.size, 2, none⟩ = some (.slice (some ⟨g, 0, none⟩) q2 q3) ∧ W.cell? ⟨g, init.length * 3 + 1, none⟩ = some (.slice zp1 zn_1 zc1) ∧ W.cell? ⟨gx, ox + i * 3 + 2, none⟩ = some (.int .u8 (xb.toNat : Int))) W8_1 := ⟨hg8_1q.cell c2 (fun e => (HZ_1.out.2.2.1 _ e).2.1 rfl), hg8_1q.cell k7 (fun e => (HZ_1.out.2.2.1 _ e).2.2 rfl), hg8_1q.cell x2 (fun e => by have := (HZ_1.out.2.2.1 _ e).1; have := HE.out.2.2.2.1; omega)⟩
                    have k8_1 := hS.2.1
                    have kf8_1 : W8_1.frozen? ⟨g, init.length * 3 + 1, none⟩ = false := frozen_of_row W8_1 g _ _ _ ((hg8_1q.block HZ_1.out.2.2.2.2.1 (fun e => (HZ_1.out.2.2.1 _ e).2.2 rfl)).trans HZ_1.out.2.2.2.1)
                    have hfin : RefV (fun _ => True) w3.heap.size w3.heap.size w3 (W8_1.setCell ⟨g, init.length * 3 + 1, none⟩ (.slice p8_1 n8_1 c8_1)) (.slice l1 l2 l3) (.slice g1 g2 g3) (.slice (some ⟨g, 0, none⟩) (init ++ [(⟨za, p8_1, c8_1, zo ++ [xb], zp2, zc2, zw⟩ : PaV)]).length q3) Cl Cg (init ++ [(⟨za, p8_1, c8_1, zo ++ [xb], zp2, zc2, zw⟩ : PaV)]) := by
                      have hll : (init ++ [(⟨za, zp1, zc1, zo, zp2, zc2, zw⟩ : PaV)]).length = (init ++ [(⟨za, p8_1, c8_1, zo ++ [xb], zp2, zc2, zw⟩ : PaV)]).length := by rw [List.length_append, List.length_append]; rfl
                      have e1 := HZ_1.out.2.2.2.2.2.1
                      subst e1
                      subst hn8_1
                      rw [← hll]
                      exact (HRl.out).more (W1 := V4) (x' := (⟨za, p8_1, c8_1, zo ++ [xb], zp2, zc2, zw⟩ : PaV)) (c := 1) (Below.refl _ _) hg8_1q HZ_1.out.2.1 ho8_1 (by decide) rfl (.inl ⟨rfl, rfl, rfl, rfl, rfl⟩)
                    have HRW24 := hid hfin
                    have HN8_1 := hid hn8_1
                    clear ho8_1 hg8_1 hg8_1q hfin hn8_1 c2 k7 x0 x1 x2 hbA
                    refine hK.out _ _ (.inr hS) ?_
                    clear hK K
                    try simp only [Act.put, List.setIfInBounds_toArray, List.set_cons_zero, List.set_cons_succ]
                    refine takeW (i := 18) rfl (by kernel_rfl) (by kernel_rfl) (by kernel_rfl) (by kernel_rfl) (fun _ _ _ h => h) (.inr hS) (.inl ⟨by rfl, by intro _ _; go_simp; with_reducible rfl⟩) ?_
                    try simp only [Act.put, List.setIfInBounds_toArray, List.set_cons_zero, List.set_cons_succ]
                    refine takeW (i := 19) rfl (by kernel_rfl) (by kernel_rfl) (by kernel_rfl) (by kernel_rfl) (fun _ _ _ h => h) (.inr hS) (.inl ⟨by rfl, by intro _ _; go_simp; with_reducible rfl⟩) ?_
                    try simp only [Act.put, List.setIfInBounds_toArray, List.set_cons_zero, List.set_cons_succ]
                    refine readyG (rs := [20]) (by kernel_rfl) (by simp) (consG rfl (fun K hK => ?_) nilG)
                    go_simp
                    refine hK.out _ _ (.inl (by kernel_rfl)) ?_
                    clear hK K k8_1 kf8_1 hS
                    refine doneG (by kernel_rfl) ?_ _
                    obtain ⟨W24, hW24⟩ : ∃ W', W' = W8_1.setCell ⟨g, init.length * 3 + 1, none⟩ (.slice p8_1 n8_1 c8_1) := ⟨_, rfl⟩
                    rw [← hW24] at HRW24
                    have HWW24 := hid hW24.symm
                    clear hW24
                    rw [HWW24.out]
                    go_upto_region 25 with fail
                    obtain ⟨zn_2, hzn_2⟩ : ∃ n, n = zw.length := ⟨_, rfl⟩
                    obtain ⟨y0, y1, y2⟩ := HYc.out W24 (HRW24.out).bel
                    have c2 : W24.cell? ⟨w3.heap.size, 2, none⟩ = some (.slice (some ⟨g, 0, none⟩) q2 q3) := by rw [HM.out.1 (⟨za, p8_1, c8_1, zo ++ [xb], zp2, zc2, zw⟩ : PaV)]; exact (HRW24.out).row.cell 2
                    obtain ⟨hatd, cur, hcur⟩ := (HRW24.out).p.atD
                    have k7 : W24.cell? ⟨g, init.length * 3 + 2, none⟩ = some (.slice zp2 zn_2 zc2) := by rw [hzn_2]; exact hatd.c2
                    have hoz : OB W24 0 5 (.slice zp2 zn_2 zc2) zw := by rw [hzn_2]; exact (HRW24.out).p.e2 (⟨za, p8_1, c8_1, zo ++ [xb], zp2, zc2, zw⟩ : PaV) (by simp)
                    have hub : ∀ q, (Value.slice zp2 zn_2 zc2).ownBlock = some q → PaV.blk (⟨za, p8_1, c8_1, zo ++ [xb], zp2, zc2, zw⟩ : PaV) q := fun q hq => by rw [hzn_2] at hq; exact .inr hq
                    have hbk : ∀ q, (Value.slice zp2 zn_2 zc2).ownBlock = some q → w3.heap.size ≤ q ∧ q ≠ w3.heap.size ∧ q ≠ g := fun q hq =>
                      have h1 := (HRW24.out).dp q (.inr ⟨(⟨za, p8_1, c8_1, zo ++ [xb], zp2, zc2, zw⟩ : PaV), by simp, hub q hq⟩)
                      ⟨h1.1, h1.2, fun e => ((HRW24.out).p.mx (⟨za, p8_1, c8_1, zo ++ [xb], zp2, zc2, zw⟩ : PaV) (by simp) q (hub q hq)).2 (by rw [e]; rfl)⟩
                    have hgl : g < W24.heap.size := (HRW24.out).p.bltG g (.inl rfl)
                    have hXl : w3.heap.size < W24.heap.size := (HRW24.out).row.lt
                    have HZ_2 := hid (And.intro hoz (And.intro hub (And.intro hbk (And.intro hcur (And.intro hgl (And.intro hzn_2 hXl))))))
                    clear hatd hoz hub hbk hcur hgl hzn_2 hXl
                    refine regionG (fun W : World => W.cell? ⟨w3.heap.size, 2, none⟩ = some (.slice (some ⟨g, 0, none⟩) q2 q3) ∧ W.cell? ⟨g, init.length * 3 + 2, none⟩ = some (.slice zp2 zn_2 zc2) ∧ W.cell? ⟨gy, oy + k * 3 + 2, none⟩ = some (.int .u8 (yb.toNat : Int))) [20] (by kernel_rfl) ?_
                    have hS : (fun W : World => W.cell? ⟨w3.heap.size, 2, none⟩ = some (.slice (some ⟨g, 0, none⟩) q2 q3) ∧ W.cell? ⟨g, init.length * 3 + 2, none⟩ = some (.slice zp2 zn_2 zc2) ∧ W.cell? ⟨gy, oy + k * 3 + 2, none⟩ = some (.int .u8 (yb.toNat : Int))) W24.drew := ⟨c2, k7, y2⟩
                    refine takeW (i := 0) rfl (by kernel_rfl) (by kernel_rfl) (by kernel_rfl) (by kernel_rfl) (fun _ _ _ h => h) (.inr hS) (.inl ⟨by rfl, by intro _ _; go_simp; with_reducible rfl⟩) ?_
                    try simp only [Act.put, List.setIfInBounds_toArray, List.set_cons_zero, List.set_cons_succ]
                    refine takeL (i := 1) rfl (by kernel_rfl) (by kernel_rfl) (by kernel_rfl) (by kernel_rfl) (by kernel_rfl) (by kernel_rfl) (by kernel_rfl) (fun _ _ _ h => h) hS (.inl ⟨by rfl, by intro _ hSw; (try dsimp only at hSw); go_simp; with_reducible rfl⟩) ?_
                    try simp only [Act.put, List.setIfInBounds_toArray, List.set_cons_zero, List.set_cons_succ]
                    refine takeW (i := 2) rfl (by kernel_rfl) (by kernel_rfl) (by kernel_rfl) (by kernel_rfl) (fun _ _ _ h => h) (.inr hS) (.inl ⟨by rfl, by intro _ _; go_simp; with_reducible rfl⟩) ?_
                    try simp only [Act.put, List.setIfInBounds_toArray, List.set_cons_zero, List.set_cons_succ]
                    refine takeW (i := 3) rfl (by kernel_rfl) (by kernel_rfl) (by kernel_rfl) (by kernel_rfl) (fun _ _ _ h => h) (.inr hS) (.inl ⟨by rfl, by intro _ _; go_simp; with_reducible rfl⟩) ?_
                    try simp only [Act.put, List.setIfInBounds_toArray, List.set_cons_zero, List.set_cons_succ]
                    refine takeW (i := 4) rfl (by kernel_rfl) (by kernel_rfl) (by kernel_rfl) (by kernel_rfl) (fun _ _ _ h => h) (.inr hS) (.inl ⟨by rfl, by intro _ _; go_simp; with_reducible rfl⟩) ?_
                    try simp only [Act.put, List.setIfInBounds_toArray, List.set_cons_zero, List.set_cons_succ]
                    refine takeL (i := 5) rfl (by kernel_rfl) (by kernel_rfl) (by kernel_rfl) (by kernel_rfl) (by kernel_rfl) (by kernel_rfl) (by kernel_rfl) (fun _ _ _ h => h) hS (.inl ⟨by rfl, by intro _ hSw; (try dsimp only at hSw); go_simp; with_reducible rfl⟩) ?_
                    try simp only [Act.put, List.setIfInBounds_toArray, List.set_cons_zero, List.set_cons_succ]
                    refine takeW (i := 6) rfl (by kernel_rfl) (by kernel_rfl) (by kernel_rfl) (by kernel_rfl) (fun _ _ _ h => h) (.inr hS) (.inl ⟨by rfl, by intro _ _; go_simp; with_reducible rfl⟩) ?_
                    try simp only [Act.put, List.setIfInBounds_toArray, List.set_cons_zero, List.set_cons_succ]
                    refine takeW (i := 7) rfl (by kernel_rfl) (by kernel_rfl) (by kernel_rfl) (by kernel_rfl) (fun _ _ _ h => h) (.inr hS) (.inl ⟨by rfl, by intro _ _; go_simp; with_reducible rfl⟩) ?_
                    try simp only [Act.put, List.setIfInBounds_toArray, List.set_cons_zero, List.set_cons_succ]
                    refine takeW (i := 8) rfl (by kernel_rfl) (by kernel_rfl) (by kernel_rfl) (by kernel_rfl) (fun _ _ _ h => h) (.inr hS) (.inl ⟨by rfl, by intro _ _; go_simp; with_reducible rfl⟩) ?_
                    try simp only [Act.put, List.setIfInBounds_toArray, List.set_cons_zero, List.set_cons_succ]
                    refine takeW (i := 9) rfl (by kernel_rfl) (by kernel_rfl) (by kernel_rfl) (by kernel_rfl) (fun _ _ _ h => h) (.inr hS) (.inl ⟨by rfl, by intro _ _; go_simp; with_reducible rfl⟩) ?_
                    try simp only [Act.put, List.setIfInBounds_toArray, List.set_cons_zero, List.set_cons_succ]
                    refine takeL (i := 10) rfl (by kernel_rfl) (by kernel_rfl) (by kernel_rfl) (by kernel_rfl) (by kernel_rfl) (by kernel_rfl) (by kernel_rfl) (fun _ _ _ h => h) hS (.inl ⟨by rfl, by intro _ hSw; (try dsimp only at hSw); go_simp; with_reducible rfl⟩) ?_
                    try simp only [Act.put, List.setIfInBounds_toArray, List.set_cons_zero, List.set_cons_succ]
                    refine takeW (i := 11) rfl (by kernel_rfl) (by kernel_rfl) (by kernel_rfl) (by kernel_rfl) (fun _ _ _ h => h) (.inr hS) (.inl ⟨by rfl, by intro _ _; go_simp; with_reducible rfl⟩) ?_
                    try simp only [Act.put, List.setIfInBounds_toArray, List.set_cons_zero, List.set_cons_succ]
                    refine takeW (i := 12) rfl (by kernel_rfl) (by kernel_rfl) (by kernel_rfl) (by kernel_rfl) (fun _ _ _ h => h) (.inr hS) (.inl ⟨by rfl, by intro _ _; go_simp; with_reducible rfl⟩) ?_
                    try simp only [Act.put, List.setIfInBounds_toArray, List.set_cons_zero, List.set_cons_succ]
                    refine takeW (i := 13) rfl (by kernel_rfl) (by kernel_rfl) (by kernel_rfl) (by kernel_rfl) (fun _ _ _ h => h) (.inr hS) (.inl ⟨by rfl, by intro _ _; go_simp; with_reducible rfl⟩) ?_
                    try simp only [Act.put, List.setIfInBounds_toArray, List.set_cons_zero, List.set_cons_succ]
                    refine takeW (i := 14) rfl (by kernel_rfl) (by kernel_rfl) (by kernel_rfl) (by kernel_rfl) (fun _ _ _ h => h) (.inr hS) (.inl ⟨by rfl, by intro _ _; go_simp; with_reducible rfl⟩) ?_
                    try simp only [Act.put, List.setIfInBounds_toArray, List.set_cons_zero, List.set_cons_succ]
                    refine takeL (i := 15) rfl (by kernel_rfl) (by kernel_rfl) (by kernel_rfl) (by kernel_rfl) (by kernel_rfl) (by kernel_rfl) (by kernel_rfl) (fun _ _ _ h => h) hS (.inl ⟨by rfl, by intro _ hSw; (try dsimp only at hSw); go_simp; with_reducible rfl⟩) ?_
                    try simp only [Act.put, List.setIfInBounds_toArray, List.set_cons_zero, List.set_cons_succ]
                    refine readyG (rs := [16]) (by kernel_rfl) (by simp) (consG rfl (fun K hK => ?_) nilG)
                    go_simp
                    have hbA := fun o : Obj => (((Below.refl W24.heap.size W24).alloc (Nat.le_refl _) o).drew : Below W24.heap.size W24 _)
                    refine hK.out _ _ (.inr ⟨below_cell' (hbA _) (World.block_lt_of_cell? W24 _ c2) c2, below_cell' (hbA _) (World.block_lt_of_cell? W24 _ k7) k7, below_cell' (hbA _) (World.block_lt_of_cell? W24 _ y2) y2⟩) ?_
                    clear hK K hS
                    refine readyG (rs := [17]) (by kernel_rfl) (by simp) (consG rfl (fun K hK => ?_) nilG)
                    refine step_bytes HG.out.2.2.2.2 _ rfl _ _ _ rfl 0 (.slice zp2 zn_2 zc2) zw rfl (OB.below HZ_2.out.1 (((Below.refl _ _).alloc (Nat.le_refl _) _).drew)) _ [yb] rfl (src_one (cl0 _ _ _)) (by have := HM.out.2.2.2.2; simp <;> omega) (Nat.zero_le _) ?_
                    intro v8_2 W8_2 ho8_2 hg8_2
                    have hg8_2q := Grew.under (((Below.refl _ _).alloc (Nat.le_refl _) _).drew : Below W24.heap.size W24 _) hg8_2
                    obtain ⟨p8_2, c8_2, hv8_2⟩ := ho8_2.form
                    obtain ⟨n8_2, hn8_2⟩ : ∃ n, n = (zw ++ [yb]).length := ⟨_, rfl⟩
                    rw [← hn8_2] at hv8_2
                    subst hv8_2
                    have hS : (fun W : World => W.cell? ⟨w3.heap.size, 2, none⟩ = some (.slice (some ⟨g, 0, none⟩) q2 q3) ∧ W.cell? ⟨g, init.length * 3 + 2, none⟩ = some (.slice zp2 zn_2 zc2) ∧ W.cell? ⟨gy, oy + k * 3 + 2, none⟩ = some (.int .u8 (yb.toNat : Int))) W8_2 := ⟨hg8_2q.cell c2 (fun e => (HZ_2.out.2.2.1 _ e).2.1 rfl), hg8_2q.cell k7 (fun e => (HZ_2.out.2.2.1 _ e).2.2 rfl), hg8_2q.cell y2 (fun e => by have := (HZ_2.out.2.2.1 _ e).1; have := HE.out.2.2.2.2.1; omega)⟩
                    have k8_2 := hS.2.1
                    have kf8_2 : W8_2.frozen? ⟨g, init.length * 3 + 2, none⟩ = false := frozen_of_row W8_2 g _ _ _ ((hg8_2q.block HZ_2.out.2.2.2.2.1 (fun e => (HZ_2.out.2.2.1 _ e).2.2 rfl)).trans HZ_2.out.2.2.2.1)
                    have hfin : RefV (fun _ => True) w3.heap.size w3.heap.size w3 (W8_2.setCell ⟨g, init.length * 3 + 2, none⟩ (.slice p8_2 n8_2 c8_2)) (.slice l1 l2 l3) (.slice g1 g2 g3) (.slice (some ⟨g, 0, none⟩) (init ++ [(⟨za, p8_1, c8_1, zo ++ [xb], p8_2, c8_2, zw ++ [yb]⟩ : PaV)]).length q3) Cl Cg (init ++ [(⟨za, p8_1, c8_1, zo ++ [xb], p8_2, c8_2, zw ++ [yb]⟩ : PaV)]) := by
                      have hll : (init ++ [(⟨za, p8_1, c8_1, zo ++ [xb], zp2, zc2, zw⟩ : PaV)]).length = (init ++ [(⟨za, p8_1, c8_1, zo ++ [xb], p8_2, c8_2, zw ++ [yb]⟩ : PaV)]).length := by rw [List.length_append, List.length_append]; rfl
                      have e1 := HZ_2.out.2.2.2.2.2.1
                      subst e1
                      subst hn8_2
                      rw [← hll]
                      exact (HRW24.out).more (W1 := W24) (x' := (⟨za, p8_1, c8_1, zo ++ [xb], p8_2, c8_2, zw ++ [yb]⟩ : PaV)) (c := 2) (Below.refl _ _) hg8_2q HZ_2.out.2.1 ho8_2 (by decide) rfl (.inr ⟨rfl, rfl, rfl, rfl, rfl⟩)
                    have HRW25 := hid hfin
                    have HN8_2 := hid hn8_2
                    clear ho8_2 hg8_2 hg8_2q hfin hn8_2 c2 k7 y0 y1 y2 hbA
                    refine hK.out _ _ (.inr hS) ?_
                    clear hK K
                    try simp only [Act.put, List.setIfInBounds_toArray, List.set_cons_zero, List.set_cons_succ]
                    refine takeW (i := 18) rfl (by kernel_rfl) (by kernel_rfl) (by kernel_rfl) (by kernel_rfl) (fun _ _ _ h => h) (.inr hS) (.inl ⟨by rfl, by intro _ _; go_simp; with_reducible rfl⟩) ?_
                    try simp only [Act.put, List.setIfInBounds_toArray, List.set_cons_zero, List.set_cons_succ]
                    refine takeW (i := 19) rfl (by kernel_rfl) (by kernel_rfl) (by kernel_rfl) (by kernel_rfl) (fun _ _ _ h => h) (.inr hS) (.inl ⟨by rfl, by intro _ _; go_simp; with_reducible rfl⟩) ?_
                    try simp only [Act.put, List.setIfInBounds_toArray, List.set_cons_zero, List.set_cons_succ]
                    refine readyG (rs := [20]) (by kernel_rfl) (by simp) (consG rfl (fun K hK => ?_) nilG)
                    go_simp
                    refine hK.out _ _ (.inl (by kernel_rfl)) ?_
                    clear hK K k8_2 kf8_2 hS
                    refine doneG (by kernel_rfl) ?_ _
                    obtain ⟨W25, hW25⟩ : ∃ W', W' = W8_2.setCell ⟨g, init.length * 3 + 2, none⟩ (.slice p8_2 n8_2 c8_2) := ⟨_, rfl⟩
                    rw [← hW25] at HRW25
                    have HWW25 := hid hW25.symm
                    clear hW25
                    rw [HWW25.out]
                    have hmap : (init ++ [(⟨za, p8_1, c8_1, zo ++ [xb], p8_2, c8_2, zw ++ [yb]⟩ : PaV)]).map PaV.m = pushD (Lp.map PaV.m) ⟨xa, xb, yb⟩ := by rw [List.map_append]; exact HPF.out
                    have hR := HRW25.out.any (K' := okD) (fun x hx => HN.out.ok x.m (by rw [← hmap]; exact List.mem_map_of_mem hx))
                    have hN2 : RmI xs ys (i + 1) (k + 1) Cl Cg ((init ++ [(⟨za, p8_1, c8_1, zo ++ [xb], p8_2, c8_2, zw ++ [yb]⟩ : PaV)]).map PaV.m) xa := by rw [hmap]; exact HN.out
                    obtain ⟨x0, x1, x2⟩ := HXc.out W25 HRW25.out.bel
                    have HFin := hid (And.intro hR hN2)
                    clear hmap hR hN2
                    go_wp2_with fail
                    exact ⟨⟨i + 1, k + 1, xa, _, _, _, _, by have := HX.out.1; have := HX.out.2; have := HV.out.2.2.2.2.2.1; have := HV.out.2.2.2.2.2.2.1; omega, by have := HX.out.1; have := HX.out.2; have := HV.out.2.2.2.2.2.1; have := HV.out.2.2.2.2.2.2.1; omega, by first | go_num | rfl, by first | go_num | rfl, rfl, HE.out.2.2.2.2.2.1, HFin.out.1, HFin.out.2⟩, by have := HX.out.1; have := HX.out.2; have := HV.out.2.2.2.2.2.1; have := HV.out.2.2.2.2.2.2.1; simp [intOf]; omega⟩
            · as_aux_lemma =>
                have hpe : (xp != yp) = true := by simp only [bne_iff_ne]; exact hpp
                have hnext := HV.out.2.1.both HE.out.1 HE.out.2.1 HE.out.2.2.1 hpp
                have HN := hid hnext
                clear hnext hpp
                obtain ⟨x0, x1, x2⟩ := HXc.out V2 HRV2.out.bel
                obtain ⟨y0, y1, y2⟩ := HYc.out V2 HRV2.out.bel
                go_quiet (fail)
                go_upto_region 17 with fail
                generalize hV : World.drewN V2 _ = V3
                have hbV : Below V2.heap.size V2 V3 := by rw [← hV]; exact below_drewNP (Below.refl _ _) _
                have HRV3 := hid ((HRV2.out).below hbV (HRV2.out).size)
                clear hV hbV x0 x1 x2 y0 y1 y2
                obtain ⟨x0, x1, x2⟩ := HXc.out V3 HRV3.out.bel
                go_wp2_with (at_builtin; refine wpList_append_grew _ rfl _ _ _ _ rfl w3.heap.size 63 ic _ 3 24 Try.underlying34 HI.out.1 HI.out.2.1 HI.out.2.2.1 HI.out.2.2.2 rfl (.slice l1 l2 l3) Cl.length (Cl.flatMap czC) rfl (ownsRow_below HRV3.out.l ((Below.refl _ _).alloc (Nat.le_refl _) _)) _ 1 [.int .u64 (xa : Int), .int .i64 xp, .int .u8 (xb.toNat : Int)] rfl (Src.laid _ Try.underlying34 [.int .u64 (xa : Int), .int .i64 xp, .int .u8 (xb.toNat : Int)] 1 rfl (by simp [Value.oneCell']) (0, 0) (by simp)) (Nat.le_trans (show Cl.length + 1 ≤ 100001 by have := HV.out.2.2.1; omega) (by decide)) (by have := HV.out.2.2.1; omega) (by have := HRV3.out.size; simp; omega) ?_)
                intro v6 W6 ho6 hg6
                have hfin := (HRV3.out).pushL (c := ⟨xa, xp, xb⟩) ((Below.refl _ _).alloc (Nat.le_refl _) _) hg6 ho6
                obtain ⟨pW6, nW6, cW6, rfl⟩ := own_form ho6
                have HRW6 := hid hfin
                clear ho6 hg6 hfin x0 x1 x2
                go_upto_region 18 with fail
                obtain ⟨y0, y1, y2⟩ := HYc.out W6 HRW6.out.bel
                go_wp2_with (at_builtin; refine wpList_append_grew _ rfl _ _ _ _ rfl w3.heap.size 63 ic _ 3 24 Try.underlying34 HI.out.1 HI.out.2.1 HI.out.2.2.1 HI.out.2.2.2 rfl (.slice g1 g2 g3) Cg.length (Cg.flatMap czC) rfl (ownsRow_below HRW6.out.g ((Below.refl _ _).alloc (Nat.le_refl _) _)) _ 1 [.int .u64 (ya : Int), .int .i64 yp, .int .u8 (yb.toNat : Int)] rfl (Src.laid _ Try.underlying34 [.int .u64 (ya : Int), .int .i64 yp, .int .u8 (yb.toNat : Int)] 1 rfl (by simp [Value.oneCell']) (0, 0) (by simp)) (Nat.le_trans (show Cg.length + 1 ≤ 100001 by have := HV.out.2.2.2.1; omega) (by decide)) (by have := HV.out.2.2.2.1; omega) (by have := HRW6.out.size; simp; omega) ?_)
                intro v6 W7 ho6 hg6
                have hfin := (HRW6.out).pushG (c := ⟨ya, yp, yb⟩) ((Below.refl _ _).alloc (Nat.le_refl _) _) hg6 ho6
                obtain ⟨pW7, nW7, cW7, rfl⟩ := own_form ho6
                have HRW7 := hid hfin
                clear ho6 hg6 hfin y0 y1 y2
                go_wp2_with fail
                exact ⟨⟨i + 1, k + 1, last, _, _, _, _, by have := HX.out.1; have := HX.out.2; have := HV.out.2.2.2.2.2.1; have := HV.out.2.2.2.2.2.2.1; omega, by have := HX.out.1; have := HX.out.2; have := HV.out.2.2.2.2.2.1; have := HV.out.2.2.2.2.2.2.1; omega, by first | go_num | rfl, by first | go_num | rfl, rfl, HV.out.2.2.2.2.2.2.2, HRW7.out, HN.out⟩, by have := HX.out.1; have := HX.out.2; have := HV.out.2.2.2.2.2.1; have := HV.out.2.2.2.2.2.2.1; simp [intOf]; omega⟩
      · as_aux_lemma =>
          -- only the first one is left
          have HX := hid (And.intro hxl hyl)
          have di : decide ((i : Int) < (nx : Int)) = true := decide_eq_true (by omega)
          have di2 : decide (i < nx) = true := decide_eq_true (by omega)
          have ei : ((i : Int) == (nx : Int)) = false := by simp only [beq_eq_false_iff_ne]; omega
          have ei2 : (i == nx) = false := by simp only [beq_eq_false_iff_ne]; omega
          have dk : decide ((k : Int) < (ny : Int)) = false := decide_eq_false (by omega)
          have dk2 : decide (k < ny) = false := decide_eq_false (by omega)
          have ek : ((k : Int) == (ny : Int)) = true := by simp only [beq_iff_eq]; omega
          have ek2 : (k == ny) = true := by simp only [beq_iff_eq]; omega
          obtain ⟨x, hx⟩ : ∃ x, xs[i]? = some x := ⟨_, List.getElem?_eq_getElem (by rw [← H3.out.2.2.1]; exact hxl)⟩
          obtain ⟨gx, ox, hpx, -, -, -⟩ := cz_cell H3.out.1 hx
          cases hpx
          have HXc := hid (fun W (hb : Below w3.heap.size w3 W) => (by obtain ⟨g', o', e, c0, c1, c2⟩ := cz_cell (H3.out.1.below hb) hx; cases e; exact ⟨c0, c1, c2⟩ : W.cell? ⟨gx, ox + i * 3, none⟩ = some (.int .u64 (x.at_ : Int)) ∧ W.cell? ⟨gx, ox + i * 3 + 1, none⟩ = some (.int .i64 x.prot) ∧ W.cell? ⟨gx, ox + i * 3 + 2, none⟩ = some (.int .u8 (x.b.toNat : Int))))
          have hxmx := H.out.1 x (List.mem_of_getElem? hx)
          have hgx : gx < w3.heap.size := by
            obtain ⟨gx', ox', e, c0, -, -⟩ := cz_cell H3.out.1 hx
            cases e
            exact World.block_lt_of_cell? w3 _ c0
          obtain ⟨xa, xp, xb⟩ := x
          dsimp only at HXc hxmx
          have i1 : (0 : Int) ≤ (i : Int) := by omega
          have i2 : (i : Int) < (nx : Int) := by omega
          have hnext := HV.out.2.1.lost hx (.inl (by have := H3.out.2.2.2.1; omega))
          have HN := hid hnext
          clear hnext hx hxl hyl hi hk hgx hxmx
          go_wp2_with fail
          obtain ⟨x0, x1, x2⟩ := HXc.out wr HV.out.1.bel
          go_quiet (fail)
          go_upto_region 11 with fail
          generalize hV : World.drewN wr _ = V
          have hbV : Below wr.heap.size wr V := by rw [← hV]; exact below_drewNP (Below.refl _ _) _
          have HRV := hid ((HV.out.1).below hbV (HV.out.1).size)
          clear hV hbV x0 x1 x2
          obtain ⟨x0, x1, x2⟩ := HXc.out V HRV.out.bel
          go_wp2_with (at_builtin; refine wpList_append_grew _ rfl _ _ _ _ rfl w3.heap.size 63 ic _ 3 24 Try.underlying34 HI.out.1 HI.out.2.1 HI.out.2.2.1 HI.out.2.2.2 rfl (.slice l1 l2 l3) Cl.length (Cl.flatMap czC) rfl (ownsRow_below HRV.out.l ((Below.refl _ _).alloc (Nat.le_refl _) _)) _ 1 [.int .u64 (xa : Int), .int .i64 xp, .int .u8 (xb.toNat : Int)] rfl (Src.laid _ Try.underlying34 [.int .u64 (xa : Int), .int .i64 xp, .int .u8 (xb.toNat : Int)] 1 rfl (by simp [Value.oneCell']) (0, 0) (by simp)) (Nat.le_trans (show Cl.length + 1 ≤ 100001 by have := HV.out.2.2.1; omega) (by decide)) (by have := HV.out.2.2.1; omega) (by have := HRV.out.size; simp; omega) ?_)
          intro v6 W6 ho6 hg6
          have hfin := (HRV.out).pushL (c := ⟨xa, xp, xb⟩) ((Below.refl _ _).alloc (Nat.le_refl _) _) hg6 ho6
          obtain ⟨pW6, nW6, cW6, rfl⟩ := own_form ho6
          have HRW6 := hid hfin
          clear ho6 hg6 hfin x0 x1 x2
          go_wp2_with fail
          exact ⟨⟨i + 1, k, last, _, _, _, _, by have := HX.out.1; have := HX.out.2; have := HV.out.2.2.2.2.2.1; have := HV.out.2.2.2.2.2.2.1; omega, by have := HX.out.1; have := HX.out.2; have := HV.out.2.2.2.2.2.1; have := HV.out.2.2.2.2.2.2.1; omega, by first | go_num | rfl, by first | go_num | rfl, rfl, HV.out.2.2.2.2.2.2.2, HRW6.out, HN.out⟩, by have := HX.out.1; have := HX.out.2; have := HV.out.2.2.2.2.2.1; have := HV.out.2.2.2.2.2.2.1; simp [intOf]; omega⟩
    · by_cases hyl : k < ny
      · as_aux_lemma =>
          -- only the second one is left
          have HX := hid (And.intro hxl hyl)
          have di : decide ((i : Int) < (nx : Int)) = false := decide_eq_false (by omega)
          have di2 : decide (i < nx) = false := decide_eq_false (by omega)
          have ei : ((i : Int) == (nx : Int)) = true := by simp only [beq_iff_eq]; omega
          have ei2 : (i == nx) = true := by simp only [beq_iff_eq]; omega
          have dk : decide ((k : Int) < (ny : Int)) = true := decide_eq_true (by omega)
          have dk2 : decide (k < ny) = true := decide_eq_true (by omega)
          have ek : ((k : Int) == (ny : Int)) = false := by simp only [beq_eq_false_iff_ne]; omega
          have ek2 : (k == ny) = false := by simp only [beq_eq_false_iff_ne]; omega
          obtain ⟨y, hy⟩ : ∃ y, ys[k]? = some y := ⟨_, List.getElem?_eq_getElem (by rw [← H3.out.2.2.2.1]; exact hyl)⟩
          obtain ⟨gy, oy, hpy, -, -, -⟩ := cz_cell H3.out.2.1 hy
          cases hpy
          have HYc := hid (fun W (hb : Below w3.heap.size w3 W) => (by obtain ⟨g', o', e, c0, c1, c2⟩ := cz_cell (H3.out.2.1.below hb) hy; cases e; exact ⟨c0, c1, c2⟩ : W.cell? ⟨gy, oy + k * 3, none⟩ = some (.int .u64 (y.at_ : Int)) ∧ W.cell? ⟨gy, oy + k * 3 + 1, none⟩ = some (.int .i64 y.prot) ∧ W.cell? ⟨gy, oy + k * 3 + 2, none⟩ = some (.int .u8 (y.b.toNat : Int))))
          have hymx := H.out.2.1 y (List.mem_of_getElem? hy)
          have hgy : gy < w3.heap.size := by
            obtain ⟨gy', oy', e, c0, -, -⟩ := cz_cell H3.out.2.1 hy
            cases e
            exact World.block_lt_of_cell? w3 _ c0
          obtain ⟨ya, yp, yb⟩ := y
          dsimp only at HYc hymx
          have k1 : (0 : Int) ≤ (k : Int) := by omega
          have k2 : (k : Int) < (ny : Int) := by omega
          have hnext := HV.out.2.1.gained hy (.inl (by have := H3.out.2.2.1; omega))
          have HN := hid hnext
          clear hnext hy hxl hyl hi hk hgy hymx
          go_wp2_with fail
          obtain ⟨y0, y1, y2⟩ := HYc.out wr HV.out.1.bel
          go_quiet (fail)
          go_upto_region 13 with fail
          generalize hV : World.drewN wr _ = V
          have hbV : Below wr.heap.size wr V := by rw [← hV]; exact below_drewNP (Below.refl _ _) _
          have HRV := hid ((HV.out.1).below hbV (HV.out.1).size)
          clear hV hbV y0 y1 y2
          obtain ⟨y0, y1, y2⟩ := HYc.out V HRV.out.bel
          go_quiet (fail)
          go_upto_region 14 with fail
          generalize hV : World.drewN V _ = V2
          have hbV : Below V.heap.size V V2 := by rw [← hV]; exact below_drewNP (Below.refl _ _) _
          have HRV2 := hid ((HRV.out).below hbV (HRV.out).size)
          clear hV hbV y0 y1 y2
          obtain ⟨y0, y1, y2⟩ := HYc.out V2 HRV2.out.bel
          go_wp2_with (at_builtin; refine wpList_append_grew _ rfl _ _ _ _ rfl w3.heap.size 63 ic _ 3 24 Try.underlying34 HI.out.1 HI.out.2.1 HI.out.2.2.1 HI.out.2.2.2 rfl (.slice g1 g2 g3) Cg.length (Cg.flatMap czC) rfl (ownsRow_below HRV2.out.g ((Below.refl _ _).alloc (Nat.le_refl _) _)) _ 1 [.int .u64 (ya : Int), .int .i64 yp, .int .u8 (yb.toNat : Int)] rfl (Src.laid _ Try.underlying34 [.int .u64 (ya : Int), .int .i64 yp, .int .u8 (yb.toNat : Int)] 1 rfl (by simp [Value.oneCell']) (0, 0) (by simp)) (Nat.le_trans (show Cg.length + 1 ≤ 100001 by have := HV.out.2.2.2.1; omega) (by decide)) (by have := HV.out.2.2.2.1; omega) (by have := HRV2.out.size; simp; omega) ?_)
          intro v6 W6 ho6 hg6
          have hfin := (HRV2.out).pushG (c := ⟨ya, yp, yb⟩) ((Below.refl _ _).alloc (Nat.le_refl _) _) hg6 ho6
          obtain ⟨pW6, nW6, cW6, rfl⟩ := own_form ho6
          have HRW6 := hid hfin
          clear ho6 hg6 hfin y0 y1 y2
          go_wp2_with fail
          exact ⟨⟨i, k + 1, last, _, _, _, _, by have := HX.out.1; have := HX.out.2; have := HV.out.2.2.2.2.2.1; have := HV.out.2.2.2.2.2.2.1; omega, by have := HX.out.1; have := HX.out.2; have := HV.out.2.2.2.2.2.1; have := HV.out.2.2.2.2.2.2.1; omega, by first | go_num | rfl, by first | go_num | rfl, rfl, HV.out.2.2.2.2.2.2.2, HRW6.out, HN.out⟩, by have := HX.out.1; have := HX.out.2; have := HV.out.2.2.2.2.2.1; have := HV.out.2.2.2.2.2.2.1; simp [intOf]; omega⟩
      · as_aux_lemma =>
          have hdn := HV.out.2.1.done (by have := H3.out.2.2.1; omega) (by have := H3.out.2.2.2.1; omega)
          have hmx := merge_is xs ys H.out.2.2.1.1 H.out.2.2.1.2.1 H.out.2.2.1.2.2.1 H.out.2.2.1.2.2.2
          have hml : ∀ c ∈ Cl, c.at_ < MAXA := fun c hc => H.out.1 c ((hmx.l c).1 (by rw [← hdn.1]; exact hc)).1
          have hmg : ∀ c ∈ Cg, c.at_ < MAXA := fun c hc => H.out.2.1 c ((hmx.g c).1 (by rw [← hdn.2.1]; exact hc)).1
          have hX3 : w3.heap.size < wr.heap.size := HV.out.1.row.lt
          have hPl := hid (br_laid wr _ Cl (own3_reads czLen HV.out.1.l) hml (by have := HV.out.2.2.1; omega))
          have di : decide ((i : Int) < (nx : Int)) = false := decide_eq_false (by omega)
          have di2 : decide (i < nx) = false := decide_eq_false (by omega)
          have ei : ((i : Int) == (nx : Int)) = true := by simp only [beq_iff_eq]; omega
          have ei2 : (i == nx) = true := by simp only [beq_iff_eq]; omega
          have dk : decide ((k : Int) < (ny : Int)) = false := decide_eq_false (by omega)
          have dk2 : decide (k < ny) = false := decide_eq_false (by omega)
          have ek : ((k : Int) == (ny : Int)) = true := by simp only [beq_iff_eq]; omega
          have ek2 : (k == ny) = true := by simp only [beq_iff_eq]; omega
          have HD := hid (And.intro hdn (And.intro hmg hX3))
          clear hdn hmx hml hmg hX3 hxl hyl hi hk
          go_wp2_with fail
          refine hPl.out.mono ?_
          rintro e w5 ⟨v5, rfl, hno5⟩
          obtain ⟨r1, r2, r3, rfl⟩ := hno_form hno5
          have hr5 := RowAt.below HV.out.1.row hno5.bel
          have c5 : w5.cell? ⟨w3.heap.size, 0, none⟩ = some (.slice none 0 0) := hr5.cell 0
          have f5 := hr5.own 0
          have HN5 := hid (And.intro hno5 hr5)
          clear hno5 hr5
          go_upto_region 30 with fail
          obtain ⟨W6, hW6⟩ : ∃ W6, W6 = w5.setCell ⟨w3.heap.size, 0, none⟩ (.slice r1 r2 r3) := ⟨_, rfl⟩
          have k6 : ∀ q, q ≠ w3.heap.size → W6.heap[q]? = w5.heap[q]? := fun q hq => by rw [hW6]; exact heap_setCell_other _ _ _ _ hq
          have s6 : W6.heap.size = w5.heap.size := by rw [hW6]; simp [World.setCell]
          have o6 : W6.os = w5.os ∧ W6.tape = w5.tape ∧ W6.output = w5.output := by rw [hW6]; exact ⟨rfl, rfl, rfl⟩
          have hr6 : RowAt W6 w3.heap.size 28 #[.slice r1 r2 r3, .slice none 0 0, .slice q1 q2 q3] := by rw [hW6]; exact HN5.out.2.same _
          have hg6 : W6.ownsRow w3.heap.size 63 3 (.slice g1 g2 g3) Cg.length (Cg.flatMap czC) := owns_of_block HV.out.1.g (fun q hq => (k6 q (HV.out.1.dg q hq).1).trans (HN5.out.1.bel.block q (World.ownsRow.lt HV.out.1.g q hq).2))
          have hPg := hid (br_laid W6 _ Cg (own3_reads czLen hg6) HD.out.2.1 (by have := HV.out.2.2.2.1; omega))
          rw [← hW6]
          have H6 := hid (And.intro k6 (And.intro s6 (And.intro o6 hr6)))
          clear hW6 k6 s6 o6 hr6 hg6 c5 f5
          go_wp2_with fail
          refine hPg.out.mono ?_
          rintro e w7 ⟨v7, rfl, hno7⟩
          obtain ⟨u1, u2, u3, rfl⟩ := hno_form hno7
          have hr7 := RowAt.below H6.out.2.2.2 hno7.bel
          have c7 : w7.cell? ⟨w3.heap.size, 1, none⟩ = some (.slice none 0 0) := hr7.cell 1
          have f7 := hr7.own 1
          have HN7 := hid (And.intro hno7 hr7)
          clear hno7 hr7
          go_upto_region 31 with fail
          obtain ⟨W8, hW8⟩ : ∃ W8, W8 = w7.setCell ⟨w3.heap.size, 1, none⟩ (.slice u1 u2 u3) := ⟨_, rfl⟩
          have k8 : ∀ q, q ≠ w3.heap.size → W8.heap[q]? = w7.heap[q]? := fun q hq => by rw [hW8]; exact heap_setCell_other _ _ _ _ hq
          have s8 : W8.heap.size = w7.heap.size := by rw [hW8]; simp [World.setCell]
          have o8 : W8.os = w7.os ∧ W8.tape = w7.tape ∧ W8.output = w7.output := by rw [hW8]; exact ⟨rfl, rfl, rfl⟩
          have hr8 : RowAt W8 w3.heap.size 28 #[.slice r1 r2 r3, .slice u1 u2 u3, .slice q1 q2 q3] := by rw [hW8]; exact HN7.out.2.same _
          have hw3 : w.heap.size < w3.heap.size := H3.out.2.2.2.2.2.2.2.1.lt
          have old : ∀ q, q < w3.heap.size → W8.heap[q]? = w3.heap[q]? := fun q hq => by
            have e1 := HD.out.2.2
            have e5 := HN5.out.1.bel.size
            have e6 := H6.out.2.1
            rw [k8 q (by omega), HN7.out.1.bel.block q (by omega), H6.out.1 q (by omega), HN5.out.1.bel.block q (by omega), HV.out.1.bel.block q hq]
          have hrR : RowAt W8 w.heap.size 28 #[.slice none 0 0, .slice none 0 0, .slice none 0 0] := (old _ hw3).trans H3.out.2.2.2.2.2.2.2.1
          rw [← hW8]
          clear hW8 c7 f7
          have x0 : W8.cell? ⟨w3.heap.size, 0, none⟩ = some (.slice r1 r2 r3) := hr8.cell 0
          have x1 : W8.cell? ⟨w3.heap.size, 1, none⟩ = some (.slice u1 u2 u3) := hr8.cell 1
          have x2 : W8.cell? ⟨w3.heap.size, 2, none⟩ = some (.slice q1 q2 q3) := hr8.cell 2
          have z0 : W8.cell? ⟨w.heap.size, 0, none⟩ = some (.slice none 0 0) := hrR.cell 0
          have z1 : W8.cell? ⟨w.heap.size, 1, none⟩ = some (.slice none 0 0) := hrR.cell 1
          have z2 : W8.cell? ⟨w.heap.size, 2, none⟩ = some (.slice none 0 0) := hrR.cell 2
          have zf0 := hrR.own 0
          have zf1 := hrR.own 1
          have zf2 := hrR.own 2
          obtain ⟨W9, hW9⟩ : ∃ W9, W9 = set3 W8 w.heap.size (.slice r1 r2 r3) (.slice u1 u2 u3) (.slice q1 q2 q3) := ⟨_, rfl⟩
          have k9 : ∀ q, q ≠ w.heap.size → W9.heap[q]? = W8.heap[q]? := fun q hq => by rw [hW9]; exact set3_keep _ hq _ _ _
          have s9 : W9.heap.size = W8.heap.size := by rw [hW9]; simp [set3, World.setCell]
          have o9 : W9.os = W8.os ∧ W9.tape = W8.tape ∧ W9.output = W8.output := by rw [hW9]; exact ⟨rfl, rfl, rfl⟩
          have hr9 : RowAt W9 w.heap.size 28 #[.slice r1 r2 r3, .slice u1 u2 u3, .slice q1 q2 q3] := by rw [hW9]; exact set3_row hrR _ _ _
          have hb9 : Below w.heap.size w W9 := by
            have e1 := HD.out.2.2
            have e5 := HN5.out.1.bel.size
            have e6 := H6.out.2.1
            have e7 := HN7.out.1.bel.size
            have e0 := HV.out.1.bel.size
            have ew := H3.out.2.2.2.2.2.2.1
            refine ⟨?_, ?_, ?_, by have := ew.size; omega, fun q hq => ?_⟩
            · rw [o9.1, o8.1, HN7.out.1.bel.os, H6.out.2.2.1.1, HN5.out.1.bel.os, HV.out.1.bel.os, ew.os]
            · rw [o9.2.1, o8.2.1, HN7.out.1.bel.tape, H6.out.2.2.1.2.1, HN5.out.1.bel.tape, HV.out.1.bel.tape, ew.tape]
            · rw [o9.2.2, o8.2.2, HN7.out.1.bel.output, H6.out.2.2.1.2.2, HN5.out.1.bel.output, HV.out.1.bel.output, ew.output]
            · rw [k9 q (by omega), old q (by omega), ew.block q hq]
          obtain ⟨-, L5, hL5, hm5⟩ := HN5.out.1
          obtain ⟨-, L7, hL7, hm7⟩ := HN7.out.1
          have p5 : OwnPz (New wr w5) W9 (.slice r1 r2 r3) L5 := hL5.of_block (fun q hq => by
            have e1 := HD.out.2.2
            have e6 := H6.out.2.1
            have h1 := hq.1
            have h2 := hq.2
            rw [k9 q (by omega), k8 q (by omega), HN7.out.1.bel.block q (by omega), H6.out.1 q (by omega)])
          have p7 : OwnPz (New W6 w7) W9 (.slice u1 u2 u3) L7 := hL7.of_block (fun q hq => by
            have e1 := HD.out.2.2
            have e5 := HN5.out.1.bel.size
            have e6 := H6.out.2.1
            have h1 := hq.1
            rw [k9 q (by omega), k8 q (by omega)])
          have pp : OwnPa (blkPa (.slice q1 q2 q3) Lp) W9 (.slice q1 q2 q3) Lp := HV.out.1.p.of_block (fun q hq => by
            have e1 := HD.out.2.2
            have e5 := HN5.out.1.bel.size
            have e6 := H6.out.2.1
            have h1 := HV.out.1.dp q hq
            have h2 := HV.out.1.p.bltG q hq
            rw [k9 q (by omega), k8 q (by omega), HN7.out.1.bel.block q (by omega), H6.out.1 q (by omega), HN5.out.1.bel.block q (by omega)])
          have y0 : W9.cell? ⟨w.heap.size, 0, none⟩ = some (.slice r1 r2 r3) := hr9.cell 0
          have y1 : W9.cell? ⟨w.heap.size, 1, none⟩ = some (.slice u1 u2 u3) := hr9.cell 1
          have y2 : W9.cell? ⟨w.heap.size, 2, none⟩ = some (.slice q1 q2 q3) := hr9.cell 2
          have hfin : RMemEnd w ⟨piecesZ (mergeR xs ys).1, piecesZ (mergeR xs ys).2.1, (mergeR xs ys).2.2.foldl pushD []⟩ (.returned (.tuple #[.agg #[.slice r1 r2 r3, .slice u1 u2 u3, .slice q1 q2 q3], .int .i64 0])) W9 :=
            ⟨_, _, _, L5, L7, Lp, rfl, hb9, p5.reads, p7.reads, pp.reads, by unfold rzV; rw [hm5, hm7, HD.out.1.1, HD.out.1.2.1, HD.out.1.2.2]⟩
          have HF := hid (And.intro hfin (And.intro y0 (And.intro y1 y2)))
          unfold set3 at hW9
          have HW9 := hid hW9.symm
          clear k8 s8 o8 hr8 hw3 old hrR k9 s9 o9 hr9 hb9 hL5 hm5 hL7 hm7 p5 p7 pp y0 y1 y2 hfin hW9
          go_wp2_with fail
          rw [HW9.out]
          obtain ⟨hf, y0, y1, y2⟩ := HF.out
          refine bodyPost_ret (v := .tuple #[.agg #[.slice r1 r2 r3, .slice u1 u2 u3, .slice q1 q2 q3], .int .i64 0]) (by simp [results, Try.results10, go_sem, y0, y1, y2]) rfl ?_
          exact hf
end Go.Proofs.Ythlnjfnjmjdohaa
