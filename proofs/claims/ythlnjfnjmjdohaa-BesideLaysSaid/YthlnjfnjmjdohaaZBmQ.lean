/- Pieces in new memory: copied. -/
import Derived.Test.YthlnjfnjmjdohaaZBmP
import Derived.Test.YthlnjfnjmjdohaaZLwA
namespace Go.Proofs.Ythlnjfnjmjdohaa
set_option linter.unusedSimpArgs false
set_option linter.unusedVariables false
open Go.RowKit

theorem NewAny.reads {w W : World} {v : Value} {L : List PzV} (h : NewAny w W v L) (hk : ∀ x ∈ L, x.bytes.length ≤ 140737488355328 ∧ x.at_ < 2 ^ 64) : PzsAt W v L := h.own.readsG hk

theorem own_baseQ {w W : World} {v : Value} {L : List PzV} (h : NewAny w W v L) : W.ownsRow w.heap.size 45 3 v L.length (L.flatMap PzV.cells) := by
  obtain ⟨h1, h2 | ⟨g, cap, cur, e, -, rest⟩⟩ := h.own.own
  · exact ⟨h1, .inl h2⟩
  · exact ⟨h1, .inr ⟨g, cap, cur, e, (h.own.mv g (by rw [e]; rfl)).1, rest⟩⟩

set_option maxHeartbeats 4000000 in
set_option maxRecDepth 8000 in
theorem bd_copied (w : World) (v : Value) (L : List PzV) (h : PzsAt w v L) (hne : ∀ x ∈ L, x.bytes ≠ []) (hlen : L.length ≤ 1000000) :
    Calls Try.prog 35 #[v] w fun e w' => ∃ p n c L', e = .returned (.slice p n c) ∧ Below w.heap.size w w' ∧ PzsAt w' (.slice p n c) L' ∧ L'.map PzV.m = L.map PzV.m := by
  obtain ⟨a, cap, rfl⟩ := RowsAt.form h.rows
  obtain ⟨N, hN⟩ : ∃ N, N = L.length := ⟨_, rfl⟩
  rw [← hN] at h hlen ⊢
  obtain ⟨ip, hip, hpz, hps, hpb⟩ := info_parts infoP1
  have HI := hid (And.intro hip (And.intro hpz (And.intro hps hpb)))
  have H := hid (And.intro h (And.intro hne (And.intro hlen hN)))
  clear h hne hlen hN hip hpz hps hpb
  go_enter Try.func35, Try.ntmps35
  go_wp2_with fail
  go_loopw [2, 4, 7] (fun vo v4 vi wr => ∃ (k : Nat) (L' : List PzV), k ≤ N ∧ vi = .int .i64 (k : Int) ∧ NewAny w wr vo L' ∧ L'.map PzV.m = (L.take k).map PzV.m) (fun _ _ vi _ => N - (intOf vi).toNat)
  case atStart => exact ⟨0, [], Nat.zero_le _, rfl, ⟨Below.refl _ _, OwnPzG.nil _ _⟩, rfl⟩
  case round =>
    obtain ⟨k, L', hk, rfl, hno, hm⟩ := hrel
    obtain ⟨o1, o2, o3, rfl⟩ := own_form hno.own.own
    have hLk : L'.length = k := by have h1 := congrArg List.length hm; rw [List.length_map, List.length_map, List.length_take] at h1; have := H.out.2.2.2; omega
    by_cases hlt : k < N
    · obtain ⟨x, hx⟩ : ∃ x, L[k]? = some x := ⟨_, List.getElem?_eq_getElem (by have := H.out.2.2.2; omega)⟩
      have hpw := H.out.1.below hno.bel
      obtain ⟨g, off, e5, y0, y1, y2⟩ := hpw.cell hx
      subst e5
      have hxm := List.mem_of_getElem? hx
      have hbs := hpw.bytes x hxm
      have hxne := H.out.2.1 x hxm
      have hxs := hpw.short hxm
      have htk : (L.take (k + 1)).map PzV.m = (L.take k).map PzV.m ++ [x.m] := by rw [List.take_add_one, hx, List.map_append]; rfl
      have hltz : decide ((k : Int) < (N : Int)) = true := by rw [decide_eq_true_eq]; omega
      have hltn : decide (k < N) = true := by rw [decide_eq_true_eq]; omega
      have i1 : (0 : Int) ≤ (k : Int) := by omega
      have i2 : (k : Int) < (N : Int) := by omega
      have hwk : IntKind.i64.wrap ((k : Int) + 1) = ((k + 1 : Nat) : Int) := (IntWalk.i64_in _ (by have := H.out.2.2.1; omega)).trans (by omega)
      obtain ⟨xa, xp, xs, xc, xb⟩ := x
      obtain ⟨n, hn⟩ : ∃ n, n = xb.length := ⟨_, rfl⟩
      dsimp only at y0 y1 y2 hbs hxne hxs
      rw [← hn] at y2
      go_upto_region 4 with fail
      obtain ⟨V, hV⟩ : ∃ V, V = wr.alloc (.cells #[.int .u64 (xa : Int), .int .i64 xp, .slice xs xb.length xc] 45) := ⟨_, rfl⟩
      have bV : Below wr.heap.size wr V := by rw [hV]; exact (Below.refl _ _).alloc (Nat.le_refl _) _
      have rV : RowAt V wr.heap.size 45 #[.int .u64 (xa : Int), .int .i64 xp, .slice xs xb.length xc] := by rw [hV]; exact heap_alloc_new wr _
      have sV : V.heap.size = wr.heap.size + 1 := by rw [hV]; simp
      rw [← hV]
      have z2 : V.cell? ⟨wr.heap.size, 2, none⟩ = some (.slice xs xb.length xc) := rV.cell 2
      have hcl := bd_clone V xs xc xb (hbs.below bV) hxne
      rw [← hn] at hcl z2
      have HX := hid (And.intro hno (And.intro hm (And.intro hLk (And.intro bV (And.intro rV (And.intro sV (And.intro hxs (And.intro htk (And.intro hlt hn)))))))))
      have HC := hid hcl
      clear hno hm hLk bV rV sV hxs htk hlt hn hV hx hpw hxm hbs hxne y0 y1 y2 hk hcl
      go_wp2_with fail
      refine HC.out.mono ?_
      rintro e w1 ⟨v1, rfl, ho1, hb1⟩
      obtain ⟨p1, c1, hv1⟩ := sl_form (x := ⟨xa, xp, none, 0, xb⟩) (OB.base ho1 (Nat.zero_le _))
      subst hv1
      have hn := HX.out.2.2.2.2.2.2.2.2.2
      have r1 := RowAt.below HX.out.2.2.2.2.1 hb1
      have z3 : w1.cell? ⟨wr.heap.size, 2, none⟩ = some (.slice xs xb.length xc) := r1.cell 2
      have f3 := r1.own 2
      rw [← hn] at z3
      have r2 : RowAt (w1.setCell ⟨wr.heap.size, 2, none⟩ (.slice p1 xb.length c1)) wr.heap.size 45 #[.int .u64 (xa : Int), .int .i64 xp, .slice p1 xb.length c1] := r1.same (i := 2) _
      have hl1 := World.ownsRow.lt ho1
      have ho2 : OB (w1.setCell ⟨wr.heap.size, 2, none⟩ (.slice p1 xb.length c1)) 0 5 (.slice p1 xb.length c1) xb := OB.base (owns_of_block ho1 (fun j hj => heap_setCell_other _ _ _ _ (fun e => by have := (hl1 j hj).1; have := HX.out.2.2.2.2.2.1; have e : j = wr.heap.size := e; omega))) (Nat.zero_le _)
      have hb2 : Below wr.heap.size wr (w1.setCell ⟨wr.heap.size, 2, none⟩ (.slice p1 xb.length c1)) := by
        have hb := HX.out.2.2.2.1.trans (hb1.mono HX.out.2.2.2.1.size)
        exact ⟨hb.os, hb.tape, hb.output, by simp [World.setCell]; exact hb.size, fun j hj => (heap_setCell_other _ _ _ _ (show j ≠ wr.heap.size by omega)).trans (hb.block j hj)⟩
      obtain ⟨W2, hW2⟩ : ∃ W, W = w1.setCell ⟨wr.heap.size, 2, none⟩ (.slice p1 xb.length c1) := ⟨_, rfl⟩
      rw [← hW2] at r2 ho2 hb2
      have s2 : W2.heap.size = w1.heap.size := by rw [hW2]; simp [World.setCell]
      have HW2 := hid hW2.symm
      have H2 := hid (And.intro r2 (And.intro ho2 (And.intro hb2 (And.intro (fun j hj => (And.intro (hl1 j hj).1 (by rw [s2]; exact (hl1 j hj).2) : V.heap.size ≤ j ∧ j < W2.heap.size)) trivial))))
      clear ho1 hb1 r1 hl1 r2 ho2 hb2 hW2 s2 hn z2
      go_upto_region 5 with fail
      rw [HW2.out]
      have t0 : W2.cell? ⟨wr.heap.size, 0, none⟩ = some (.int .u64 (xa : Int)) := H2.out.1.cell 0
      have t1 : W2.cell? ⟨wr.heap.size, 1, none⟩ = some (.int .i64 xp) := H2.out.1.cell 1
      have t2 : W2.cell? ⟨wr.heap.size, 2, none⟩ = some (.slice p1 xb.length c1) := H2.out.1.cell 2
      have hown : W2.ownsRow w.heap.size 45 3 (.slice o1 o2 o3) L'.length (L'.flatMap PzV.cells) := ownsRow_below (own_baseQ HX.out.1) H2.out.2.2.1
      have HO := hid hown
      clear hown
      go_wp2_with (at_builtin; refine wpList_append_grew _ rfl _ _ _ _ rfl w.heap.size 45 ip _ 3 40 Try.underlying22 HI.out.1 HI.out.2.1 HI.out.2.2.1 HI.out.2.2.2 rfl (.slice o1 o2 o3) L'.length (L'.flatMap PzV.cells) rfl (ownsRow_below HO.out ((Below.refl _ _).alloc (Nat.le_refl _) _)) _ 1 [.int .u64 (xa : Int), .int .i64 xp, .slice p1 xb.length c1] rfl (Src.laid _ Try.underlying22 [.int .u64 (xa : Int), .int .i64 xp, .slice p1 xb.length c1] 1 rfl (by simp [Value.oneCell']) (0, 0) (by simp)) (Nat.le_trans (show L'.length + 1 ≤ 1000001 by have h1 := HX.out.2.2.1; have h2 := H.out.2.2.1; have h3 := HX.out.2.2.2.2.2.2.2.2.1; omega) (by decide)) (by have h1 := HX.out.2.2.1; have h2 := H.out.2.2.1; have h3 := HX.out.2.2.2.2.2.2.2.2.1; omega) (by have h1 := HX.out.1.bel.size; have h2 := H2.out.2.2.1.size; simp; omega) ?_)
      intro v6 W6 ho6 hg6
      have hg6 := Grew.under ((Below.refl _ _).alloc (Nat.le_refl _) _ : Below W2.heap.size W2 _) hg6
      obtain ⟨r1, r2, r3, rfl⟩ := own_form ho6
      have hyn : ∀ j, (Value.slice p1 xb.length c1).ownBlock = some j → wr.heap.size ≤ j := fun j hj => by have := (H2.out.2.2.2.1 j hj).1; have := HX.out.2.2.2.2.2.1; omega
      have hgv : ∀ j, (Value.slice p1 xb.length c1).ownBlock = some j → (Value.slice r1 r2 r3).ownBlock ≠ some j := fun j hj e => by
        have h1 := H2.out.2.2.2.1 j hj
        have h2 := HX.out.2.2.2.2.2.1
        rcases hg6.lies with e2 | ⟨q, e2, hq⟩
        · rw [e2] at e; have := (HX.out.1.own.mv j e).2; omega
        · rw [e2] at e; cases e; omega
      have hnew : NewAny w W6 (.slice r1 r2 r3) (L' ++ [⟨xa, xp, p1, c1, xb⟩]) := HX.out.1.snocB (y := ⟨xa, xp, p1, c1, xb⟩) H2.out.2.2.1 H2.out.2.1 hyn hg6 hgv ho6
      have H6 := hid hnew
      clear ho6 hg6 hyn hgv hnew t0 t1 t2
      go_wp2_with fail
      refine ⟨⟨k + 1, L' ++ [⟨xa, xp, p1, c1, xb⟩], by have := HX.out.2.2.2.2.2.2.2.2.1; omega, by go_num, H6.out, by rw [HX.out.2.2.2.2.2.2.2.1, List.map_append, HX.out.2.1]; rfl⟩, by simp only [intOf, Int.toNat_natCast]; have := HX.out.2.2.2.2.2.2.2.2.1; omega⟩
    · have hkN : k = N := by omega
      have hltz : decide ((k : Int) < (N : Int)) = false := by rw [decide_eq_false_iff_not]; omega
      have hltn : decide (k < N) = false := by rw [decide_eq_false_iff_not]; omega
      have hm' : L'.map PzV.m = L.map PzV.m := by rw [hm, hkN, H.out.2.2.2, List.take_length]
      have hrd : PzsAt wr (.slice o1 o2 o3) L' := hno.reads (fun y hy => by
        obtain ⟨x, hx, e⟩ := ms_mem hm' hy
        have h1 := H.out.1.short hx
        have h2 := H.out.1.ats x hx
        unfold PzV.m at e
        have e1 := congrArg Pz.bytes e
        have e2 := congrArg Pz.at_ e
        dsimp only at e1 e2
        exact ⟨by rw [← e1]; exact h1, by rw [← e2]; exact h2⟩)
      have HN := hid (And.intro hno.bel (And.intro hrd hm'))
      clear hno hm hk hkN hlt hm' hrd hLk
      go_wp2_with fail
      refine bodyPost_ret (v := .slice o1 o2 o3) (by simp [results, Try.results35, go_sem]) rfl ?_
      exact ⟨_, _, _, L', rfl, HN.out.1, HN.out.2.1, HN.out.2.2⟩
end Go.Proofs.Ythlnjfnjmjdohaa
