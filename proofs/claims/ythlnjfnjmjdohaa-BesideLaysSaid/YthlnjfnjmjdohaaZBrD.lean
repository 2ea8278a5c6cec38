/- The document's pieces of bytes: Pieces. -/
import Derived.Test.YthlnjfnjmjdohaaZBrC
import Derived.Test.YthlnjfnjmjdohaaZBpU
import Derived.Test.YthlnjfnjmjdohaaZBdA
namespace Go.Proofs.Ythlnjfnjmjdohaa
set_option linter.unusedSimpArgs false
set_option linter.unusedVariables false
open Go.RowKit

theorem any_cell {w W : World} {g cap : Nat} {init : List PzV} {x : PzV} (h : NewAny w W (.slice (some ⟨g, 0, none⟩) (init ++ [x]).length cap) (init ++ [x])) : W.cell? ⟨g, init.length * 3 + 2, none⟩ = some x.sl ∧ W.frozen? ⟨g, init.length * 3 + 2, none⟩ = false ∧ g < W.heap.size := by
  obtain ⟨g', cap', cur, e, hc, hu⟩ := own3_rows pzLen h.own.own (i := init.length) (x := x) (by simp)
  cases e
  exact ⟨by simp only [World.cell?, hc]; exact hu 2 _ rfl, frozen_of_row W g _ _ _ hc, (Array.getElem?_eq_some_iff.1 hc).1⟩
theorem any_form {w W : World} {v : Value} {init : List PzV} {x : PzV} (h : NewAny w W v (init ++ [x])) : ∃ g cap, v = .slice (some ⟨g, 0, none⟩) (init ++ [x]).length cap := by
  obtain ⟨g', cap', cur, e, -, -⟩ := own3_rows pzLen h.own.own (i := init.length) (x := x) (by simp)
  exact ⟨g', cap', e⟩
theorem own_base {w W : World} {v : Value} {L : List PzV} (h : NewAny w W v L) : W.ownsRow w.heap.size 45 3 v L.length (L.flatMap PzV.cells) := by
  obtain ⟨h1, h2 | ⟨g, cap, cur, e, -, rest⟩⟩ := h.own.own
  · exact ⟨h1, .inl h2⟩
  · exact ⟨h1, .inr ⟨g, cap, cur, e, (h.own.mv g (by rw [e]; rfl)).1, rest⟩⟩
theorem NewAny.drewN {w W : World} {v : Value} {L : List PzV} (h : NewAny w W v L) (q : Nat) : NewAny w (W.drewN q) v L := h.below (below_drewNP (Below.refl _ _) q)

set_option maxHeartbeats 8000000 in
set_option maxRecDepth 8000 in
theorem br_laid (w : World) (v : Value) (C : List Cz) (h : RowsAt czC 3 w v C) (hmax : ∀ c ∈ C, c.at_ < MAXA) (hlen : C.length ≤ 1000000) :
    Calls Try.prog 16 #[v] w fun e w' => ∃ v', e = .returned v' ∧ NewOwn w w' v' (piecesZ C) := by
  obtain ⟨pc, cc, rfl⟩ := RowsAt.form h
  obtain ⟨N, hN⟩ : ∃ N, N = C.length := ⟨_, rfl⟩
  rw [← hN] at h hlen ⊢
  obtain ⟨ip, hip, hpz, hps, hpb⟩ := info_parts infoP1
  obtain ⟨iu, R⟩ := u8rowB
  have HI := hid (And.intro hip (And.intro hpz (And.intro hps (And.intro hpb R))))
  have H := hid (And.intro h (And.intro hmax (And.intro hlen hN)))
  clear h hmax hlen hN hip hpz hps hpb R
  go_enter Try.func16, Try.ntmps16
  go_wp2_with fail
  go_loopw [3, 4] (fun vo vi wr => ∃ (i : Nat) (L : List PzV), i ≤ N ∧ vi = .int .i64 (i : Int) ∧ NewAny w wr vo L ∧ L.map PzV.m = piecesZ (C.take i)) (fun _ vi _ => N - (intOf vi).toNat)
  case atStart => exact ⟨0, [], Nat.zero_le _, rfl, ⟨Below.refl _ _, OwnPzG.nil _ _⟩, rfl⟩
  case round =>
    obtain ⟨i, L, hi, rfl, hno, hLm⟩ := hrel
    obtain ⟨q1, q2, q3, rfl⟩ := own_form hno.own.own
    by_cases hlt : i < N
    · obtain ⟨x, hx⟩ : ∃ x, C[i]? = some x := ⟨_, List.getElem?_eq_getElem (by rw [← H.out.2.2.2]; exact hlt)⟩
      have hCt := H.out.1.below hno.bel
      obtain ⟨gc, oc, rfl, hcx⟩ := RowsAt.at hCt hx
      have y0 : wr.cell? ⟨gc, oc + i * 3, none⟩ = some (.int .u64 (x.at_ : Int)) := by simpa using hcx 0 _ rfl
      have y1 : wr.cell? ⟨gc, oc + i * 3 + 1, none⟩ = some (.int .i64 x.prot) := hcx 1 _ rfl
      have y2 : wr.cell? ⟨gc, oc + i * 3 + 2, none⟩ = some (.int .u8 (x.b.toNat : Int)) := hcx 2 _ rfl
      have htk : piecesZ (C.take (i + 1)) = pushC (piecesZ (C.take i)) x := by rw [List.take_add_one, hx]; exact pieces_snoc _ _
      have hLl : L.length ≤ 1000000 := by
        have h1 := congrArg List.length hLm
        have h2 := pieces_len (C.take i)
        have h3 := H.out.2.2.1
        rw [List.length_map] at h1
        rw [List.length_take] at h2
        omega
      have hxm := H.out.2.1 x (List.mem_of_getElem? hx)
      have i1 : (0 : Int) ≤ (i : Int) := by omega
      have i2 : (i : Int) < (N : Int) := by omega
      have hltz : decide ((i : Int) < (N : Int)) = true := by rw [decide_eq_true_eq]; omega
      have hwi : IntKind.i64.wrap ((i : Int) + 1) = ((i + 1 : Nat) : Int) := (IntWalk.i64_in _ (by have := H.out.2.2.1; omega)).trans (by omega)
      have hprev : 0 < i → ∃ y init p, C[i - 1]? = some y ∧ piecesZ (C.take i) = init ++ [p] ∧ p.end_ = y.at_ + 1 ∧ p.prot = y.prot := fun h0 => by
        obtain ⟨y, hy⟩ : ∃ y, C[i - 1]? = some y := ⟨_, List.getElem?_eq_getElem (by have := H.out.2.2.2; omega)⟩
        have e : C.take i = C.take (i - 1) ++ [y] := by
          have : C.take (i - 1 + 1) = C.take (i - 1) ++ [y] := by rw [List.take_add_one, hy]; rfl
          rwa [Nat.sub_add_cancel h0] at this
        obtain ⟨init, p, e1, e2, e3⟩ := pieces_last (C.take (i - 1)) y
        rw [← e] at e1
        exact ⟨y, init, p, hy, e1, e2, e3⟩
      have hread : ∀ W, Below wr.heap.size wr W → W.cell? ⟨gc, oc + i * 3, none⟩ = some (.int .u64 (x.at_ : Int)) ∧ W.cell? ⟨gc, oc + i * 3 + 1, none⟩ = some (.int .i64 x.prot) ∧ W.cell? ⟨gc, oc + i * 3 + 2, none⟩ = some (.int .u8 (x.b.toNat : Int)) := fun W hb =>
        ⟨below_cell' hb (World.block_lt_of_cell? wr _ y0) y0, below_cell' hb (World.block_lt_of_cell? wr _ y1) y1, below_cell' hb (World.block_lt_of_cell? wr _ y2) y2⟩
      have hgc : gc < w.heap.size := by
        obtain ⟨gc', oc', e, hc0⟩ := RowsAt.at H.out.1 hx
        cases e
        exact World.block_lt_of_cell? w _ (by simpa using hc0 0 _ rfl)
      obtain ⟨xa, xp, xb⟩ := x
      dsimp only at y0 y1 y2 htk hxm hread
      have HX := hid (And.intro hno (And.intro hLm (And.intro htk (And.intro hLl (And.intro hxm (And.intro hread (And.intro hgc hlt)))))))
      have HP := hid hprev
      have HC := hid hCt
      clear hno hLm htk hLl hxm hread hgc hprev hcx hCt hx hi hlt
      by_cases hi0 : i = 0
      · have hpush : pushC (piecesZ (C.take i)) ⟨xa, xp, xb⟩ = (piecesZ (C.take i)) ++ [⟨xa, xp, [xb]⟩] := by rw [hi0]; rfl
        have hq0 : ((i : Int) == 0) = true := by simp only [beq_iff_eq]; omega
        have hq1 : (i == 0) = true := by simp only [beq_iff_eq]; omega
        have Hi0 := hid hi0
        clear hi0
        go_upto_region 5 with fail
        go_quiet (fail)
        go_upto_region 6 with fail
        generalize hV : World.drewN wr _ = V
        have hbV : Below wr.heap.size wr V := by rw [← hV]; exact below_drewNP (Below.refl _ _) _
        clear hV
        have hnV := HX.out.1.below hbV
        have HV := hid (And.intro hbV hnV)
        refine regionG (fun W : World => W.cell? ⟨gc, oc + i * 3, none⟩ = some (.int .u64 (xa : Int)) ∧ W.cell? ⟨gc, oc + i * 3 + 1, none⟩ = some (.int .i64 xp)) [12] (by kernel_rfl) ?_
        have hS : (fun W : World => W.cell? ⟨gc, oc + i * 3, none⟩ = some (.int .u64 (xa : Int)) ∧ W.cell? ⟨gc, oc + i * 3 + 1, none⟩ = some (.int .i64 xp)) V.drew := ⟨(HX.out.2.2.2.2.2.1 V hbV).1, (HX.out.2.2.2.2.2.1 V hbV).2.1⟩
        clear hbV hnV y0 y1 y2
        refine takeW (i := 0) rfl (by kernel_rfl) (by kernel_rfl) (by kernel_rfl) (by kernel_rfl) (fun _ _ _ h => h) (.inr hS) (.inl ⟨by rfl, by intro _ _; go_simp; with_reducible rfl⟩) ?_
        try simp only [Act.put, List.setIfInBounds_toArray, List.set_cons_zero, List.set_cons_succ]
        refine takeW (i := 1) rfl (by kernel_rfl) (by kernel_rfl) (by kernel_rfl) (by kernel_rfl) (fun _ _ _ h => h) (.inr hS) (.inl ⟨by rfl, by intro _ _; go_simp; with_reducible rfl⟩) ?_
        try simp only [Act.put, List.setIfInBounds_toArray, List.set_cons_zero, List.set_cons_succ]
        refine takeW (i := 2) rfl (by kernel_rfl) (by kernel_rfl) (by kernel_rfl) (by kernel_rfl) (fun _ _ _ h => h) (.inr hS) (.inl ⟨by rfl, by intro _ _; go_simp; with_reducible rfl⟩) ?_
        try simp only [Act.put, List.setIfInBounds_toArray, List.set_cons_zero, List.set_cons_succ]
        refine takeW (i := 3) rfl (by kernel_rfl) (by kernel_rfl) (by kernel_rfl) (by kernel_rfl) (fun _ _ _ h => h) (.inr hS) (.inl ⟨by rfl, by intro _ _; go_simp; with_reducible rfl⟩) ?_
        try simp only [Act.put, List.setIfInBounds_toArray, List.set_cons_zero, List.set_cons_succ]
        refine takeW (i := 4) rfl (by kernel_rfl) (by kernel_rfl) (by kernel_rfl) (by kernel_rfl) (fun _ _ _ h => h) (.inr hS) (.inl ⟨by rfl, by intro _ _; go_simp; with_reducible rfl⟩) ?_
        try simp only [Act.put, List.setIfInBounds_toArray, List.set_cons_zero, List.set_cons_succ]
        refine takeL (i := 5) rfl (by kernel_rfl) (by kernel_rfl) (by kernel_rfl) (by kernel_rfl) (by kernel_rfl) (by kernel_rfl) (by kernel_rfl) (fun _ _ _ h => h) hS (.inl ⟨by rfl, by intro _ hSw; (try dsimp only at hSw); go_simp; with_reducible rfl⟩) ?_
        try simp only [Act.put, List.setIfInBounds_toArray, List.set_cons_zero, List.set_cons_succ]
        refine takeW (i := 6) rfl (by kernel_rfl) (by kernel_rfl) (by kernel_rfl) (by kernel_rfl) (fun _ _ _ h => h) (.inr hS) (.inl ⟨by rfl, by intro _ _; go_simp; with_reducible rfl⟩) ?_
        try simp only [Act.put, List.setIfInBounds_toArray, List.set_cons_zero, List.set_cons_succ]
        refine takeW (i := 7) rfl (by kernel_rfl) (by kernel_rfl) (by kernel_rfl) (by kernel_rfl) (fun _ _ _ h => h) (.inr hS) (.inl ⟨by rfl, by intro _ _; go_simp; with_reducible rfl⟩) ?_
        try simp only [Act.put, List.setIfInBounds_toArray, List.set_cons_zero, List.set_cons_succ]
        refine takeW (i := 8) rfl (by kernel_rfl) (by kernel_rfl) (by kernel_rfl) (by kernel_rfl) (fun _ _ _ h => h) (.inr hS) (.inl ⟨by rfl, by intro _ _; go_simp; with_reducible rfl⟩) ?_
        try simp only [Act.put, List.setIfInBounds_toArray, List.set_cons_zero, List.set_cons_succ]
        refine takeW (i := 9) rfl (by kernel_rfl) (by kernel_rfl) (by kernel_rfl) (by kernel_rfl) (fun _ _ _ h => h) (.inr hS) (.inl ⟨by rfl, by intro _ _; go_simp; with_reducible rfl⟩) ?_
        try simp only [Act.put, List.setIfInBounds_toArray, List.set_cons_zero, List.set_cons_succ]
        refine takeL (i := 10) rfl (by kernel_rfl) (by kernel_rfl) (by kernel_rfl) (by kernel_rfl) (by kernel_rfl) (by kernel_rfl) (by kernel_rfl) (fun _ _ _ h => h) hS (.inl ⟨by rfl, by intro _ hSw; (try dsimp only at hSw); go_simp; with_reducible rfl⟩) ?_
        try simp only [Act.put, List.setIfInBounds_toArray, List.set_cons_zero, List.set_cons_succ]
        refine takeW (i := 11) rfl (by kernel_rfl) (by kernel_rfl) (by kernel_rfl) (by kernel_rfl) (fun _ _ _ h => h) (.inr hS) (.inl ⟨by rfl, by intro _ _; go_simp; with_reducible rfl⟩) ?_
        try simp only [Act.put, List.setIfInBounds_toArray, List.set_cons_zero, List.set_cons_succ]
        refine readyG (rs := [12]) (by kernel_rfl) (by simp) (consG rfl (fun K hK => ?_) nilG)
        go_simp
        refine hK.out _ _ (.inl (by kernel_rfl)) ?_
        clear hK K hS
        refine readyG (rs := [13]) (by kernel_rfl) (by simp) (consG rfl (fun K hK => ?_) nilG)
        refine step_grewB _ rfl _ _ _ _ rfl w.heap.size 45 ip _ 3 40 Try.underlying22 HI.out.1 HI.out.2.1 HI.out.2.2.1 HI.out.2.2.2.1 rfl (.slice q1 q2 q3) L.length (L.flatMap PzV.cells) rfl (ownsRow_below (own_base HV.out.2) (((Below.refl _ _).alloc (Nat.le_refl _) _).drew)) _ 1 [.int .u64 (xa : Int), .int .i64 xp, .slice none 0 0] rfl (src_laidDB _ Try.underlying22 [.int .u64 (xa : Int), .int .i64 xp, .slice none 0 0] 1 rfl (by simp [Value.oneCell']) (0, 0) rfl) (Nat.le_trans (show L.length + 1 ≤ 1000001 by have := HX.out.2.2.2.1; omega) (by decide)) (by have := HX.out.2.2.2.1; omega) (by have := HV.out.2.bel.size; simp; omega) ?_
        intro v6 W7 ho6 hg6
        have hn7 := HV.out.2.push (W1 := V) (Below.refl _ _) (Grew.under (((Below.refl _ _).alloc (Nat.le_refl _) _).drew) hg6) xa xp ho6
        obtain ⟨p6, n6, c6, rfl⟩ := own_form ho6
        have hW7 : Below w.heap.size w W7 := hn7.bel
        have hc7 : W7.cell? ⟨gc, oc + i * 3 + 2, none⟩ = some (.int .u8 (xb.toNat : Int)) := by
          have h1 := (HX.out.2.2.2.2.2.1 V HV.out.1).2.2
          exact (World.cell?_of_block ((hn7.bel.block gc HX.out.2.2.2.2.2.2.1).trans (HV.out.2.bel.block gc HX.out.2.2.2.2.2.2.1).symm)).trans h1
        clear ho6 hg6
        refine hK.out _ _ (.inl (by kernel_rfl)) ?_
        clear hK K
        try simp only [Act.put, List.setIfInBounds_toArray, List.set_cons_zero, List.set_cons_succ]
        refine takeW (i := 14) rfl (by kernel_rfl) (by kernel_rfl) (by kernel_rfl) (by kernel_rfl) (fun _ _ _ h => h) (.inl (by kernel_rfl)) (.inl ⟨by rfl, by intro _ _; go_simp; with_reducible rfl⟩) ?_
        try simp only [Act.put, List.setIfInBounds_toArray, List.set_cons_zero, List.set_cons_succ]
        refine doneG (by kernel_rfl) ?_ _
        go_upto_region 7 with fail
        have hzl : (([] : List UInt8)).length ≤ 1000000 := Nat.zero_le _
        obtain ⟨init, hinit⟩ : ∃ l, l = L := ⟨_, rfl⟩
        obtain ⟨z, hz⟩ : ∃ z : PzV, z = ⟨xa, xp, none, 0, []⟩ := ⟨_, rfl⟩
        rw [← hinit, ← hz] at hn7
        have hil : init.length ≤ 1000000 := by rw [hinit]; exact HX.out.2.2.2.1
        have hpm : pushC (piecesZ (C.take i)) ⟨xa, xp, xb⟩ = init.map PzV.m ++ [⟨z.at_, z.prot, z.bytes ++ [xb]⟩] := by rw [hz, hinit, HX.out.2.1]; exact hpush
        have hzl : z.bytes.length ≤ 140737488355328 - 1 := by rw [hz]; simp
        clear hz hinit hpush
        obtain ⟨g, cap, hgv⟩ := any_form hn7
        cases hgv
        obtain ⟨k7, kf7, kl7⟩ := any_cell hn7
        obtain ⟨M, hM⟩ : ∃ M, M = (init ++ [z]).length := ⟨_, rfl⟩
        have hMi : M = init.length + 1 := by rw [hM, List.length_append]; rfl
        have hil7 := hil
        obtain ⟨zn, hzn⟩ : ∃ n, n = z.bytes.length := ⟨_, rfl⟩
        obtain ⟨za, zq, zp, zc, zb⟩ := z
        dsimp only [PzV.sl] at k7 hzn hpm hzl
        rw [← hzn] at k7
        have hwl : IntKind.i64.wrap ((M : Int) - 1) = (init.length : Int) := (IntWalk.i64_in _ (by omega)).trans (by omega)
        have m1 : (0 : Int) ≤ (init.length : Int) := by omega
        have m2 : (init.length : Int) < (M : Int) := by omega
        have ho7 : OB W7 0 5 (.slice zp zn zc) zb := by rw [hzn]; exact hn7.own.each ⟨za, zq, zp, zc, zb⟩ (by simp)
        have hgz : (Value.slice zp zn zc).ownBlock ≠ some g := by rw [hzn]; exact fun e => (hn7.own.mx ⟨za, zq, zp, zc, zb⟩ (by simp) g e).2 rfl
        have HZ := hid (And.intro hn7 (And.intro ho7 (And.intro hzn (And.intro hM (And.intro hpm (And.intro hgz (And.intro kl7 hzl)))))))
        rw [← hM]
        clear hn7 ho7 hzn hM hpm hgz kl7 hMi hzl
        have hgcz : (Value.slice zp zn zc).ownBlock ≠ some gc := fun e => by have := ((HZ.out.1.own.mx ⟨za, zq, zp, zc, zb⟩ (by simp) gc (by show (Value.slice zp zb.length zc).ownBlock = _; rw [← HZ.out.2.2.1]; exact e)).1).1; have := HX.out.2.2.2.2.2.2.1; omega
        refine regionG (fun W : World => W.cell? ⟨g, init.length * 3 + 2, none⟩ = some (.slice zp zn zc) ∧ W.cell? ⟨gc, oc + i * 3 + 2, none⟩ = some (.int .u8 (xb.toNat : Int))) [20] (by kernel_rfl) ?_
        have hS : (fun W : World => W.cell? ⟨g, init.length * 3 + 2, none⟩ = some (.slice zp zn zc) ∧ W.cell? ⟨gc, oc + i * 3 + 2, none⟩ = some (.int .u8 (xb.toNat : Int))) W7.drew := ⟨k7, hc7⟩
        refine takeW (i := 0) rfl (by kernel_rfl) (by kernel_rfl) (by kernel_rfl) (by kernel_rfl) (fun _ _ _ h => h) (.inr hS) (.inl ⟨by rfl, by intro _ _; go_simp; with_reducible rfl⟩) ?_
        try simp only [Act.put, List.setIfInBounds_toArray, List.set_cons_zero, List.set_cons_succ]
        refine takeW (i := 1) rfl (by kernel_rfl) (by kernel_rfl) (by kernel_rfl) (by kernel_rfl) (fun _ _ _ h => h) (.inr hS) (.inl ⟨by rfl, by intro _ _; go_simp; with_reducible rfl⟩) ?_
        try simp only [Act.put, List.setIfInBounds_toArray, List.set_cons_zero, List.set_cons_succ]
        refine takeW (i := 2) rfl (by kernel_rfl) (by kernel_rfl) (by kernel_rfl) (by kernel_rfl) (fun _ _ _ h => h) (.inr hS) (.inl ⟨by rfl, by intro _ _; go_simp; with_reducible rfl⟩) ?_
        try simp only [Act.put, List.setIfInBounds_toArray, List.set_cons_zero, List.set_cons_succ]
        refine takeW (i := 3) rfl (by kernel_rfl) (by kernel_rfl) (by kernel_rfl) (by kernel_rfl) (fun _ _ _ h => h) (.inr hS) (.inl ⟨by rfl, by intro _ _; go_simp; with_reducible rfl⟩) ?_
        try simp only [Act.put, List.setIfInBounds_toArray, List.set_cons_zero, List.set_cons_succ]
        refine takeW (i := 4) rfl (by kernel_rfl) (by kernel_rfl) (by kernel_rfl) (by kernel_rfl) (fun _ _ _ h => h) (.inr hS) (.inl ⟨by rfl, by intro _ _; go_simp; with_reducible rfl⟩) ?_
        try simp only [Act.put, List.setIfInBounds_toArray, List.set_cons_zero, List.set_cons_succ]
        refine takeW (i := 5) rfl (by kernel_rfl) (by kernel_rfl) (by kernel_rfl) (by kernel_rfl) (fun _ _ _ h => h) (.inr hS) (.inl ⟨by rfl, by intro _ _; go_simp; with_reducible rfl⟩) ?_
        try simp only [Act.put, List.setIfInBounds_toArray, List.set_cons_zero, List.set_cons_succ]
        refine takeW (i := 6) rfl (by kernel_rfl) (by kernel_rfl) (by kernel_rfl) (by kernel_rfl) (fun _ _ _ h => h) (.inr hS) (.inl ⟨by rfl, by intro _ _; go_simp; with_reducible rfl⟩) ?_
        try simp only [Act.put, List.setIfInBounds_toArray, List.set_cons_zero, List.set_cons_succ]
        refine takeW (i := 7) rfl (by kernel_rfl) (by kernel_rfl) (by kernel_rfl) (by kernel_rfl) (fun _ _ _ h => h) (.inr hS) (.inl ⟨by rfl, by intro _ _; go_simp; with_reducible rfl⟩) ?_
        try simp only [Act.put, List.setIfInBounds_toArray, List.set_cons_zero, List.set_cons_succ]
        refine takeW (i := 8) rfl (by kernel_rfl) (by kernel_rfl) (by kernel_rfl) (by kernel_rfl) (fun _ _ _ h => h) (.inr hS) (.inl ⟨by rfl, by intro _ _; go_simp; with_reducible rfl⟩) ?_
        try simp only [Act.put, List.setIfInBounds_toArray, List.set_cons_zero, List.set_cons_succ]
        refine takeW (i := 9) rfl (by kernel_rfl) (by kernel_rfl) (by kernel_rfl) (by kernel_rfl) (fun _ _ _ h => h) (.inr hS) (.inl ⟨by rfl, by intro _ _; go_simp; with_reducible rfl⟩) ?_
        try simp only [Act.put, List.setIfInBounds_toArray, List.set_cons_zero, List.set_cons_succ]
        refine takeL (i := 10) rfl (by kernel_rfl) (by kernel_rfl) (by kernel_rfl) (by kernel_rfl) (by kernel_rfl) (by kernel_rfl) (by kernel_rfl) (fun _ _ _ h => h) hS (.inl ⟨by rfl, by intro _ hSw; (try dsimp only at hSw); go_simp; with_reducible rfl⟩) ?_
        try simp only [Act.put, List.setIfInBounds_toArray, List.set_cons_zero, List.set_cons_succ]
        refine takeW (i := 11) rfl (by kernel_rfl) (by kernel_rfl) (by kernel_rfl) (by kernel_rfl) (fun _ _ _ h => h) (.inr hS) (.inl ⟨by rfl, by intro _ _; go_simp; with_reducible rfl⟩) ?_
        try simp only [Act.put, List.setIfInBounds_toArray, List.set_cons_zero, List.set_cons_succ]
        refine takeW (i := 12) rfl (by kernel_rfl) (by kernel_rfl) (by kernel_rfl) (by kernel_rfl) (fun _ _ _ h => h) (.inr hS) (.inl ⟨by rfl, by intro _ _; go_simp; with_reducible rfl⟩) ?_
        try simp only [Act.put, List.setIfInBounds_toArray, List.set_cons_zero, List.set_cons_succ]
        refine takeW (i := 13) rfl (by kernel_rfl) (by kernel_rfl) (by kernel_rfl) (by kernel_rfl) (fun _ _ _ h => h) (.inr hS) (.inl ⟨by rfl, by intro _ _; go_simp; with_reducible rfl⟩) ?_
        try simp only [Act.put, List.setIfInBounds_toArray, List.set_cons_zero, List.set_cons_succ]
        refine takeW (i := 14) rfl (by kernel_rfl) (by kernel_rfl) (by kernel_rfl) (by kernel_rfl) (fun _ _ _ h => h) (.inr hS) (.inl ⟨by rfl, by intro _ _; go_simp; with_reducible rfl⟩) ?_
        try simp only [Act.put, List.setIfInBounds_toArray, List.set_cons_zero, List.set_cons_succ]
        refine takeL (i := 15) rfl (by kernel_rfl) (by kernel_rfl) (by kernel_rfl) (by kernel_rfl) (by kernel_rfl) (by kernel_rfl) (by kernel_rfl) (fun _ _ _ h => h) hS (.inl ⟨by rfl, by intro _ hSw; (try dsimp only at hSw); go_simp; with_reducible rfl⟩) ?_
        try simp only [Act.put, List.setIfInBounds_toArray, List.set_cons_zero, List.set_cons_succ]
        refine readyG (rs := [16]) (by kernel_rfl) (by simp) (consG rfl (fun K hK => ?_) nilG)
        go_simp
        have hbA := fun o : Obj => (((Below.refl W7.heap.size W7).alloc (Nat.le_refl _) o).drew : Below W7.heap.size W7 _)
        refine hK.out _ _ (.inr ⟨below_cell' (hbA _) (World.block_lt_of_cell? W7 _ k7) k7, below_cell' (hbA _) (World.block_lt_of_cell? W7 _ hc7) hc7⟩) ?_
        clear hK K hS
        refine readyG (rs := [17]) (by kernel_rfl) (by simp) (consG rfl (fun K hK => ?_) nilG)
        refine step_bytes HI.out.2.2.2.2 _ rfl _ _ _ rfl 0 (.slice zp zn zc) zb rfl (OB.below HZ.out.2.1 (((Below.refl _ _).alloc (Nat.le_refl _) _).drew)) _ [xb] rfl (src_one (cl0 _ _ _)) (by have := HZ.out.2.2.2.2.2.2.2; simp; omega) (Nat.zero_le _) ?_
        intro v8 W8 ho8 hg8
        have hg8 := Grew.under (((Below.refl _ _).alloc (Nat.le_refl _) _).drew : Below W7.heap.size W7 _) hg8
        obtain ⟨p8, c8, hv8⟩ := ho8.form
        obtain ⟨n8, hn8⟩ : ∃ n, n = (zb ++ [xb]).length := ⟨_, rfl⟩
        rw [← hn8] at hv8
        subst hv8
        have k8 := hg8.cell k7 HZ.out.2.2.2.2.2.1
        have hS : (fun W : World => W.cell? ⟨g, init.length * 3 + 2, none⟩ = some (.slice zp zn zc) ∧ W.cell? ⟨gc, oc + i * 3 + 2, none⟩ = some (.int .u8 (xb.toNat : Int))) W8 := ⟨k8, hg8.cell hc7 hgcz⟩
        have kf8 : W8.frozen? ⟨g, init.length * 3 + 2, none⟩ = false := by
          obtain ⟨g', cap', cur, e, hcc, -⟩ := own3_rows pzLen HZ.out.1.own.own (i := init.length) (x := ⟨za, zq, zp, zc, zb⟩) (by simp)
          cases e
          exact frozen_of_row W8 g _ _ _ ((hg8.block HZ.out.2.2.2.2.2.2.1 HZ.out.2.2.2.2.2.1).trans hcc)
        have hfin := HZ.out.1.more (W1 := W7) (Below.refl _ _) (by show Grew W7 W8 (.slice zp zb.length zc) _; rw [← HZ.out.2.2.1]; exact hg8) hn8 ho8
        have HF := hid hfin
        have HN8 := hid hn8
        clear ho8 hg8 hfin k7 kf7 hn8 hc7 hgcz hbA
        refine hK.out _ _ (.inr hS) ?_
        clear hK K
        try simp only [Act.put, List.setIfInBounds_toArray, List.set_cons_zero, List.set_cons_succ]
        refine takeW (i := 18) rfl (by kernel_rfl) (by kernel_rfl) (by kernel_rfl) (by kernel_rfl) (fun _ _ _ h => h) (.inr hS) (.inl ⟨by rfl, by intro _ _; go_simp; with_reducible rfl⟩) ?_
        try simp only [Act.put, List.setIfInBounds_toArray, List.set_cons_zero, List.set_cons_succ]
        refine takeW (i := 19) rfl (by kernel_rfl) (by kernel_rfl) (by kernel_rfl) (by kernel_rfl) (fun _ _ _ h => h) (.inr hS) (.inl ⟨by rfl, by intro _ _; go_simp; with_reducible rfl⟩) ?_
        try simp only [Act.put, List.setIfInBounds_toArray, List.set_cons_zero, List.set_cons_succ]
        refine readyG (rs := [20]) (by kernel_rfl) (by simp) (consG rfl (fun K hK => ?_) nilG)
        go_simp
        refine hK.out _ _ (.inl (by kernel_rfl)) ?_
        clear hK K k8 kf8 hS
        refine doneG (by kernel_rfl) ?_ _
        go_wp2_with fail
        exact ⟨⟨i + 1, _, by have := HX.out.2.2.2.2.2.2.2; omega, by go_num, by rw [HZ.out.2.2.2.1]; exact HF.out, by rw [HX.out.2.2.1, HZ.out.2.2.2.2.1, List.map_append]; rfl⟩, by have := HX.out.2.2.2.2.2.2.2; simp [intOf]; omega⟩
      · obtain ⟨y, init, p, hy, hpi, hpe, hpp⟩ := HP.out (by omega)
        obtain ⟨gy, oy, ey, hcy⟩ := RowsAt.at HC.out hy
        cases ey
        have hym := H.out.2.1 y (List.mem_of_getElem? hy)
        obtain ⟨j, hj⟩ : ∃ j, j = i - 1 := ⟨_, rfl⟩
        rw [← hj] at hcy
        have z0 : wr.cell? ⟨gc, oc + j * 3, none⟩ = some (.int .u64 (y.at_ : Int)) := by simpa using hcy 0 _ rfl
        have z1 : wr.cell? ⟨gc, oc + j * 3 + 1, none⟩ = some (.int .i64 y.prot) := hcy 1 _ rfl
        have hwj : IntKind.i64.wrap ((i : Int) - 1) = (j : Int) := (IntWalk.i64_in _ (by have := H.out.2.2.1; omega)).trans (by omega)
        have j1 : (0 : Int) ≤ (j : Int) := by omega
        have j2 : (j : Int) < (N : Int) := by omega
        obtain ⟨ya, yp, yb⟩ := y
        dsimp only at z0 z1 hpe hpp hym
        have hwy : IntKind.u64.wrap ((ya : Int) + 1) = (ya : Int) + 1 := IntWalk.u64_in _ (by unfold MAXA at hym; omega)
        have hq0 : ((i : Int) == 0) = false := by simp only [beq_eq_false_iff_ne]; omega
        have hq1 : (i == 0) = false := by simp only [beq_eq_false_iff_ne]; omega
        have HY := hid (And.intro hpi (And.intro hpe (And.intro hpp (And.intro hym hj))))
        have Hi0 := hid hi0
        clear hpi hpe hpp hym hj hy hcy hi0
        by_cases hxa : xa = ya + 1
        · have hb0 : ((xa : Int) != (ya : Int) + 1) = false := by rw [hxa]; simp
          by_cases hxp : xp = yp
          · have hb1 : (xp != yp) = false := by simp only [bne_eq_false_iff_eq]; exact hxp
            have hpush : pushC (piecesZ (C.take i)) ⟨xa, xp, xb⟩ = init ++ [⟨p.at_, p.prot, p.bytes ++ [xb]⟩] := by
              rw [HY.out.1, pushC_snoc, if_pos ⟨by rw [HY.out.2.1, hxa], by rw [HY.out.2.2.1, hxp]⟩]
            obtain ⟨L', z, hL', hzm⟩ : ∃ L' z, L = L' ++ [z] ∧ L'.map PzV.m = init ∧ z.m = p := by
              have e := HX.out.2.1
              rw [HY.out.1] at e
              rcases last_casesV L with h0 | ⟨l, z, h0⟩
              · rw [h0] at e; simp at e
              · refine ⟨l, z, h0, ?_⟩
                rw [h0, List.map_append] at e
                have := List.append_inj' e rfl
                exact ⟨this.1, by simpa using this.2⟩
            have hzl : z.bytes.length ≤ 140737488355328 - 1 := by
              have e : z.m.at_ + z.m.bytes.length = ya + 1 := by rw [hzm.2]; exact HY.out.2.1
              have hx := HX.out.2.2.2.2.1
              unfold MAXA at hx
              have e2 : z.m.bytes.length = z.bytes.length := rfl
              omega
            have HE := hid (And.intro hL' (And.intro hzm (And.intro hpush hzl)))
            have Hx := hid (And.intro hxa hxp)
            clear hxa hxp hpush hL' hzm hzl
            go_upto_region 5 with fail
            go_quiet (fail)
            go_upto_region 7 with fail
            generalize hV : World.drewN wr _ = W7
            have hbV : Below wr.heap.size wr W7 := by rw [← hV]; exact below_drewNP (Below.refl _ _) _
            have hn7 := HX.out.1.below hbV
            have hc7 := (HX.out.2.2.2.2.2.1 W7 hbV).2.2
            have hzl := HE.out.2.2.2
            have hpm : pushC (piecesZ (C.take i)) ⟨xa, xp, xb⟩ = L'.map PzV.m ++ [⟨z.at_, z.prot, z.bytes ++ [xb]⟩] := by rw [HE.out.2.2.1, HE.out.2.1.1, ← HE.out.2.1.2]; rfl
            rw [HE.out.1] at hn7
            clear hV hbV y0 y1 y2 z0 z1
            obtain ⟨init, hinit⟩ : ∃ l, l = L' := ⟨_, rfl⟩
            rw [← hinit] at hn7 hpm
            have hil : init.length ≤ 1000000 := by have h1 := HX.out.2.2.2.1; rw [HE.out.1, List.length_append] at h1; rw [hinit]; omega
            clear hinit
            obtain ⟨g, cap, hgv⟩ := any_form hn7
            cases hgv
            obtain ⟨k7, kf7, kl7⟩ := any_cell hn7
            obtain ⟨M, hM⟩ : ∃ M, M = (init ++ [z]).length := ⟨_, rfl⟩
            have hMi : M = init.length + 1 := by rw [hM, List.length_append]; rfl
            have hil7 := hil
            obtain ⟨zn, hzn⟩ : ∃ n, n = z.bytes.length := ⟨_, rfl⟩
            obtain ⟨za, zq, zp, zc, zb⟩ := z
            dsimp only [PzV.sl] at k7 hzn hpm hzl
            rw [← hzn] at k7
            have hwl : IntKind.i64.wrap ((M : Int) - 1) = (init.length : Int) := (IntWalk.i64_in _ (by omega)).trans (by omega)
            have m1 : (0 : Int) ≤ (init.length : Int) := by omega
            have m2 : (init.length : Int) < (M : Int) := by omega
            have ho7 : OB W7 0 5 (.slice zp zn zc) zb := by rw [hzn]; exact hn7.own.each ⟨za, zq, zp, zc, zb⟩ (by simp)
            have hgz : (Value.slice zp zn zc).ownBlock ≠ some g := by rw [hzn]; exact fun e => (hn7.own.mx ⟨za, zq, zp, zc, zb⟩ (by simp) g e).2 rfl
            have HZ := hid (And.intro hn7 (And.intro ho7 (And.intro hzn (And.intro hM (And.intro hpm (And.intro hgz (And.intro kl7 hzl)))))))
            rw [← hM]
            clear hn7 ho7 hzn hM hpm hgz kl7 hMi hzl
            have hgcz : (Value.slice zp zn zc).ownBlock ≠ some gc := fun e => by have := ((HZ.out.1.own.mx ⟨za, zq, zp, zc, zb⟩ (by simp) gc (by show (Value.slice zp zb.length zc).ownBlock = _; rw [← HZ.out.2.2.1]; exact e)).1).1; have := HX.out.2.2.2.2.2.2.1; omega
            refine regionG (fun W : World => W.cell? ⟨g, init.length * 3 + 2, none⟩ = some (.slice zp zn zc) ∧ W.cell? ⟨gc, oc + i * 3 + 2, none⟩ = some (.int .u8 (xb.toNat : Int))) [20] (by kernel_rfl) ?_
            have hS : (fun W : World => W.cell? ⟨g, init.length * 3 + 2, none⟩ = some (.slice zp zn zc) ∧ W.cell? ⟨gc, oc + i * 3 + 2, none⟩ = some (.int .u8 (xb.toNat : Int))) W7.drew := ⟨k7, hc7⟩
            refine takeW (i := 0) rfl (by kernel_rfl) (by kernel_rfl) (by kernel_rfl) (by kernel_rfl) (fun _ _ _ h => h) (.inr hS) (.inl ⟨by rfl, by intro _ _; go_simp; with_reducible rfl⟩) ?_
            try simp only [Act.put, List.setIfInBounds_toArray, List.set_cons_zero, List.set_cons_succ]
            refine takeW (i := 1) rfl (by kernel_rfl) (by kernel_rfl) (by kernel_rfl) (by kernel_rfl) (fun _ _ _ h => h) (.inr hS) (.inl ⟨by rfl, by intro _ _; go_simp; with_reducible rfl⟩) ?_
            try simp only [Act.put, List.setIfInBounds_toArray, List.set_cons_zero, List.set_cons_succ]
            refine takeW (i := 2) rfl (by kernel_rfl) (by kernel_rfl) (by kernel_rfl) (by kernel_rfl) (fun _ _ _ h => h) (.inr hS) (.inl ⟨by rfl, by intro _ _; go_simp; with_reducible rfl⟩) ?_
            try simp only [Act.put, List.setIfInBounds_toArray, List.set_cons_zero, List.set_cons_succ]
            refine takeW (i := 3) rfl (by kernel_rfl) (by kernel_rfl) (by kernel_rfl) (by kernel_rfl) (fun _ _ _ h => h) (.inr hS) (.inl ⟨by rfl, by intro _ _; go_simp; with_reducible rfl⟩) ?_
            try simp only [Act.put, List.setIfInBounds_toArray, List.set_cons_zero, List.set_cons_succ]
            refine takeW (i := 4) rfl (by kernel_rfl) (by kernel_rfl) (by kernel_rfl) (by kernel_rfl) (fun _ _ _ h => h) (.inr hS) (.inl ⟨by rfl, by intro _ _; go_simp; with_reducible rfl⟩) ?_
            try simp only [Act.put, List.setIfInBounds_toArray, List.set_cons_zero, List.set_cons_succ]
            refine takeW (i := 5) rfl (by kernel_rfl) (by kernel_rfl) (by kernel_rfl) (by kernel_rfl) (fun _ _ _ h => h) (.inr hS) (.inl ⟨by rfl, by intro _ _; go_simp; with_reducible rfl⟩) ?_
            try simp only [Act.put, List.setIfInBounds_toArray, List.set_cons_zero, List.set_cons_succ]
            refine takeW (i := 6) rfl (by kernel_rfl) (by kernel_rfl) (by kernel_rfl) (by kernel_rfl) (fun _ _ _ h => h) (.inr hS) (.inl ⟨by rfl, by intro _ _; go_simp; with_reducible rfl⟩) ?_
            try simp only [Act.put, List.setIfInBounds_toArray, List.set_cons_zero, List.set_cons_succ]
            refine takeW (i := 7) rfl (by kernel_rfl) (by kernel_rfl) (by kernel_rfl) (by kernel_rfl) (fun _ _ _ h => h) (.inr hS) (.inl ⟨by rfl, by intro _ _; go_simp; with_reducible rfl⟩) ?_
            try simp only [Act.put, List.setIfInBounds_toArray, List.set_cons_zero, List.set_cons_succ]
            refine takeW (i := 8) rfl (by kernel_rfl) (by kernel_rfl) (by kernel_rfl) (by kernel_rfl) (fun _ _ _ h => h) (.inr hS) (.inl ⟨by rfl, by intro _ _; go_simp; with_reducible rfl⟩) ?_
            try simp only [Act.put, List.setIfInBounds_toArray, List.set_cons_zero, List.set_cons_succ]
            refine takeW (i := 9) rfl (by kernel_rfl) (by kernel_rfl) (by kernel_rfl) (by kernel_rfl) (fun _ _ _ h => h) (.inr hS) (.inl ⟨by rfl, by intro _ _; go_simp; with_reducible rfl⟩) ?_
            try simp only [Act.put, List.setIfInBounds_toArray, List.set_cons_zero, List.set_cons_succ]
            refine takeL (i := 10) rfl (by kernel_rfl) (by kernel_rfl) (by kernel_rfl) (by kernel_rfl) (by kernel_rfl) (by kernel_rfl) (by kernel_rfl) (fun _ _ _ h => h) hS (.inl ⟨by rfl, by intro _ hSw; (try dsimp only at hSw); go_simp; with_reducible rfl⟩) ?_
            try simp only [Act.put, List.setIfInBounds_toArray, List.set_cons_zero, List.set_cons_succ]
            refine takeW (i := 11) rfl (by kernel_rfl) (by kernel_rfl) (by kernel_rfl) (by kernel_rfl) (fun _ _ _ h => h) (.inr hS) (.inl ⟨by rfl, by intro _ _; go_simp; with_reducible rfl⟩) ?_
            try simp only [Act.put, List.setIfInBounds_toArray, List.set_cons_zero, List.set_cons_succ]
            refine takeW (i := 12) rfl (by kernel_rfl) (by kernel_rfl) (by kernel_rfl) (by kernel_rfl) (fun _ _ _ h => h) (.inr hS) (.inl ⟨by rfl, by intro _ _; go_simp; with_reducible rfl⟩) ?_
            try simp only [Act.put, List.setIfInBounds_toArray, List.set_cons_zero, List.set_cons_succ]
            refine takeW (i := 13) rfl (by kernel_rfl) (by kernel_rfl) (by kernel_rfl) (by kernel_rfl) (fun _ _ _ h => h) (.inr hS) (.inl ⟨by rfl, by intro _ _; go_simp; with_reducible rfl⟩) ?_
            try simp only [Act.put, List.setIfInBounds_toArray, List.set_cons_zero, List.set_cons_succ]
            refine takeW (i := 14) rfl (by kernel_rfl) (by kernel_rfl) (by kernel_rfl) (by kernel_rfl) (fun _ _ _ h => h) (.inr hS) (.inl ⟨by rfl, by intro _ _; go_simp; with_reducible rfl⟩) ?_
            try simp only [Act.put, List.setIfInBounds_toArray, List.set_cons_zero, List.set_cons_succ]
            refine takeL (i := 15) rfl (by kernel_rfl) (by kernel_rfl) (by kernel_rfl) (by kernel_rfl) (by kernel_rfl) (by kernel_rfl) (by kernel_rfl) (fun _ _ _ h => h) hS (.inl ⟨by rfl, by intro _ hSw; (try dsimp only at hSw); go_simp; with_reducible rfl⟩) ?_
            try simp only [Act.put, List.setIfInBounds_toArray, List.set_cons_zero, List.set_cons_succ]
            refine readyG (rs := [16]) (by kernel_rfl) (by simp) (consG rfl (fun K hK => ?_) nilG)
            go_simp
            have hbA := fun o : Obj => (((Below.refl W7.heap.size W7).alloc (Nat.le_refl _) o).drew : Below W7.heap.size W7 _)
            refine hK.out _ _ (.inr ⟨below_cell' (hbA _) (World.block_lt_of_cell? W7 _ k7) k7, below_cell' (hbA _) (World.block_lt_of_cell? W7 _ hc7) hc7⟩) ?_
            clear hK K hS
            refine readyG (rs := [17]) (by kernel_rfl) (by simp) (consG rfl (fun K hK => ?_) nilG)
            refine step_bytes HI.out.2.2.2.2 _ rfl _ _ _ rfl 0 (.slice zp zn zc) zb rfl (OB.below HZ.out.2.1 (((Below.refl _ _).alloc (Nat.le_refl _) _).drew)) _ [xb] rfl (src_one (cl0 _ _ _)) (by have := HZ.out.2.2.2.2.2.2.2; simp; omega) (Nat.zero_le _) ?_
            intro v8 W8 ho8 hg8
            have hg8 := Grew.under (((Below.refl _ _).alloc (Nat.le_refl _) _).drew : Below W7.heap.size W7 _) hg8
            obtain ⟨p8, c8, hv8⟩ := ho8.form
            obtain ⟨n8, hn8⟩ : ∃ n, n = (zb ++ [xb]).length := ⟨_, rfl⟩
            rw [← hn8] at hv8
            subst hv8
            have k8 := hg8.cell k7 HZ.out.2.2.2.2.2.1
            have hS : (fun W : World => W.cell? ⟨g, init.length * 3 + 2, none⟩ = some (.slice zp zn zc) ∧ W.cell? ⟨gc, oc + i * 3 + 2, none⟩ = some (.int .u8 (xb.toNat : Int))) W8 := ⟨k8, hg8.cell hc7 hgcz⟩
            have kf8 : W8.frozen? ⟨g, init.length * 3 + 2, none⟩ = false := by
              obtain ⟨g', cap', cur, e, hcc, -⟩ := own3_rows pzLen HZ.out.1.own.own (i := init.length) (x := ⟨za, zq, zp, zc, zb⟩) (by simp)
              cases e
              exact frozen_of_row W8 g _ _ _ ((hg8.block HZ.out.2.2.2.2.2.2.1 HZ.out.2.2.2.2.2.1).trans hcc)
            have hfin := HZ.out.1.more (W1 := W7) (Below.refl _ _) (by show Grew W7 W8 (.slice zp zb.length zc) _; rw [← HZ.out.2.2.1]; exact hg8) hn8 ho8
            have HF := hid hfin
            have HN8 := hid hn8
            clear ho8 hg8 hfin k7 kf7 hn8 hc7 hgcz hbA
            refine hK.out _ _ (.inr hS) ?_
            clear hK K
            try simp only [Act.put, List.setIfInBounds_toArray, List.set_cons_zero, List.set_cons_succ]
            refine takeW (i := 18) rfl (by kernel_rfl) (by kernel_rfl) (by kernel_rfl) (by kernel_rfl) (fun _ _ _ h => h) (.inr hS) (.inl ⟨by rfl, by intro _ _; go_simp; with_reducible rfl⟩) ?_
            try simp only [Act.put, List.setIfInBounds_toArray, List.set_cons_zero, List.set_cons_succ]
            refine takeW (i := 19) rfl (by kernel_rfl) (by kernel_rfl) (by kernel_rfl) (by kernel_rfl) (fun _ _ _ h => h) (.inr hS) (.inl ⟨by rfl, by intro _ _; go_simp; with_reducible rfl⟩) ?_
            try simp only [Act.put, List.setIfInBounds_toArray, List.set_cons_zero, List.set_cons_succ]
            refine readyG (rs := [20]) (by kernel_rfl) (by simp) (consG rfl (fun K hK => ?_) nilG)
            go_simp
            refine hK.out _ _ (.inl (by kernel_rfl)) ?_
            clear hK K k8 kf8 hS
            refine doneG (by kernel_rfl) ?_ _
            go_wp2_with fail
            exact ⟨⟨i + 1, _, by have := HX.out.2.2.2.2.2.2.2; omega, by go_num, by rw [HZ.out.2.2.2.1]; exact HF.out, by rw [HX.out.2.2.1, HZ.out.2.2.2.2.1, List.map_append]; rfl⟩, by have := HX.out.2.2.2.2.2.2.2; simp [intOf]; omega⟩
          · have hb1 : (xp != yp) = true := by simp only [bne_iff_ne]; exact hxp
            have hpush : pushC (piecesZ (C.take i)) ⟨xa, xp, xb⟩ = (piecesZ (C.take i)) ++ [⟨xa, xp, [xb]⟩] := by
              rw [HY.out.1, pushC_snoc, if_neg (fun h => hxp (by rw [← HY.out.2.2.1]; exact h.2.symm))]
            have Hx := hid (And.intro hxa hxp)
            clear hxa hxp
            go_upto_region 5 with fail
            go_quiet (fail)
            go_upto_region 6 with fail
            generalize hV : World.drewN wr _ = V
            have hbV : Below wr.heap.size wr V := by rw [← hV]; exact below_drewNP (Below.refl _ _) _
            clear hV
            have hnV := HX.out.1.below hbV
            have HV := hid (And.intro hbV hnV)
            refine regionG (fun W : World => W.cell? ⟨gc, oc + i * 3, none⟩ = some (.int .u64 (xa : Int)) ∧ W.cell? ⟨gc, oc + i * 3 + 1, none⟩ = some (.int .i64 xp)) [12] (by kernel_rfl) ?_
            have hS : (fun W : World => W.cell? ⟨gc, oc + i * 3, none⟩ = some (.int .u64 (xa : Int)) ∧ W.cell? ⟨gc, oc + i * 3 + 1, none⟩ = some (.int .i64 xp)) V.drew := ⟨(HX.out.2.2.2.2.2.1 V hbV).1, (HX.out.2.2.2.2.2.1 V hbV).2.1⟩
            clear hbV hnV y0 y1 y2
            refine takeW (i := 0) rfl (by kernel_rfl) (by kernel_rfl) (by kernel_rfl) (by kernel_rfl) (fun _ _ _ h => h) (.inr hS) (.inl ⟨by rfl, by intro _ _; go_simp; with_reducible rfl⟩) ?_
            try simp only [Act.put, List.setIfInBounds_toArray, List.set_cons_zero, List.set_cons_succ]
            refine takeW (i := 1) rfl (by kernel_rfl) (by kernel_rfl) (by kernel_rfl) (by kernel_rfl) (fun _ _ _ h => h) (.inr hS) (.inl ⟨by rfl, by intro _ _; go_simp; with_reducible rfl⟩) ?_
            try simp only [Act.put, List.setIfInBounds_toArray, List.set_cons_zero, List.set_cons_succ]
            refine takeW (i := 2) rfl (by kernel_rfl) (by kernel_rfl) (by kernel_rfl) (by kernel_rfl) (fun _ _ _ h => h) (.inr hS) (.inl ⟨by rfl, by intro _ _; go_simp; with_reducible rfl⟩) ?_
            try simp only [Act.put, List.setIfInBounds_toArray, List.set_cons_zero, List.set_cons_succ]
            refine takeW (i := 3) rfl (by kernel_rfl) (by kernel_rfl) (by kernel_rfl) (by kernel_rfl) (fun _ _ _ h => h) (.inr hS) (.inl ⟨by rfl, by intro _ _; go_simp; with_reducible rfl⟩) ?_
            try simp only [Act.put, List.setIfInBounds_toArray, List.set_cons_zero, List.set_cons_succ]
            refine takeW (i := 4) rfl (by kernel_rfl) (by kernel_rfl) (by kernel_rfl) (by kernel_rfl) (fun _ _ _ h => h) (.inr hS) (.inl ⟨by rfl, by intro _ _; go_simp; with_reducible rfl⟩) ?_
            try simp only [Act.put, List.setIfInBounds_toArray, List.set_cons_zero, List.set_cons_succ]
            refine takeL (i := 5) rfl (by kernel_rfl) (by kernel_rfl) (by kernel_rfl) (by kernel_rfl) (by kernel_rfl) (by kernel_rfl) (by kernel_rfl) (fun _ _ _ h => h) hS (.inl ⟨by rfl, by intro _ hSw; (try dsimp only at hSw); go_simp; with_reducible rfl⟩) ?_
            try simp only [Act.put, List.setIfInBounds_toArray, List.set_cons_zero, List.set_cons_succ]
            refine takeW (i := 6) rfl (by kernel_rfl) (by kernel_rfl) (by kernel_rfl) (by kernel_rfl) (fun _ _ _ h => h) (.inr hS) (.inl ⟨by rfl, by intro _ _; go_simp; with_reducible rfl⟩) ?_
            try simp only [Act.put, List.setIfInBounds_toArray, List.set_cons_zero, List.set_cons_succ]
            refine takeW (i := 7) rfl (by kernel_rfl) (by kernel_rfl) (by kernel_rfl) (by kernel_rfl) (fun _ _ _ h => h) (.inr hS) (.inl ⟨by rfl, by intro _ _; go_simp; with_reducible rfl⟩) ?_
            try simp only [Act.put, List.setIfInBounds_toArray, List.set_cons_zero, List.set_cons_succ]
            refine takeW (i := 8) rfl (by kernel_rfl) (by kernel_rfl) (by kernel_rfl) (by kernel_rfl) (fun _ _ _ h => h) (.inr hS) (.inl ⟨by rfl, by intro _ _; go_simp; with_reducible rfl⟩) ?_
            try simp only [Act.put, List.setIfInBounds_toArray, List.set_cons_zero, List.set_cons_succ]
            refine takeW (i := 9) rfl (by kernel_rfl) (by kernel_rfl) (by kernel_rfl) (by kernel_rfl) (fun _ _ _ h => h) (.inr hS) (.inl ⟨by rfl, by intro _ _; go_simp; with_reducible rfl⟩) ?_
            try simp only [Act.put, List.setIfInBounds_toArray, List.set_cons_zero, List.set_cons_succ]
            refine takeL (i := 10) rfl (by kernel_rfl) (by kernel_rfl) (by kernel_rfl) (by kernel_rfl) (by kernel_rfl) (by kernel_rfl) (by kernel_rfl) (fun _ _ _ h => h) hS (.inl ⟨by rfl, by intro _ hSw; (try dsimp only at hSw); go_simp; with_reducible rfl⟩) ?_
            try simp only [Act.put, List.setIfInBounds_toArray, List.set_cons_zero, List.set_cons_succ]
            refine takeW (i := 11) rfl (by kernel_rfl) (by kernel_rfl) (by kernel_rfl) (by kernel_rfl) (fun _ _ _ h => h) (.inr hS) (.inl ⟨by rfl, by intro _ _; go_simp; with_reducible rfl⟩) ?_
            try simp only [Act.put, List.setIfInBounds_toArray, List.set_cons_zero, List.set_cons_succ]
            refine readyG (rs := [12]) (by kernel_rfl) (by simp) (consG rfl (fun K hK => ?_) nilG)
            go_simp
            refine hK.out _ _ (.inl (by kernel_rfl)) ?_
            clear hK K hS
            refine readyG (rs := [13]) (by kernel_rfl) (by simp) (consG rfl (fun K hK => ?_) nilG)
            refine step_grewB _ rfl _ _ _ _ rfl w.heap.size 45 ip _ 3 40 Try.underlying22 HI.out.1 HI.out.2.1 HI.out.2.2.1 HI.out.2.2.2.1 rfl (.slice q1 q2 q3) L.length (L.flatMap PzV.cells) rfl (ownsRow_below (own_base HV.out.2) (((Below.refl _ _).alloc (Nat.le_refl _) _).drew)) _ 1 [.int .u64 (xa : Int), .int .i64 xp, .slice none 0 0] rfl (src_laidDB _ Try.underlying22 [.int .u64 (xa : Int), .int .i64 xp, .slice none 0 0] 1 rfl (by simp [Value.oneCell']) (0, 0) rfl) (Nat.le_trans (show L.length + 1 ≤ 1000001 by have := HX.out.2.2.2.1; omega) (by decide)) (by have := HX.out.2.2.2.1; omega) (by have := HV.out.2.bel.size; simp; omega) ?_
            intro v6 W7 ho6 hg6
            have hn7 := HV.out.2.push (W1 := V) (Below.refl _ _) (Grew.under (((Below.refl _ _).alloc (Nat.le_refl _) _).drew) hg6) xa xp ho6
            obtain ⟨p6, n6, c6, rfl⟩ := own_form ho6
            have hW7 : Below w.heap.size w W7 := hn7.bel
            have hc7 : W7.cell? ⟨gc, oc + i * 3 + 2, none⟩ = some (.int .u8 (xb.toNat : Int)) := by
              have h1 := (HX.out.2.2.2.2.2.1 V HV.out.1).2.2
              exact (World.cell?_of_block ((hn7.bel.block gc HX.out.2.2.2.2.2.2.1).trans (HV.out.2.bel.block gc HX.out.2.2.2.2.2.2.1).symm)).trans h1
            clear ho6 hg6
            refine hK.out _ _ (.inl (by kernel_rfl)) ?_
            clear hK K
            try simp only [Act.put, List.setIfInBounds_toArray, List.set_cons_zero, List.set_cons_succ]
            refine takeW (i := 14) rfl (by kernel_rfl) (by kernel_rfl) (by kernel_rfl) (by kernel_rfl) (fun _ _ _ h => h) (.inl (by kernel_rfl)) (.inl ⟨by rfl, by intro _ _; go_simp; with_reducible rfl⟩) ?_
            try simp only [Act.put, List.setIfInBounds_toArray, List.set_cons_zero, List.set_cons_succ]
            refine doneG (by kernel_rfl) ?_ _
            go_upto_region 7 with fail
            have hzl : (([] : List UInt8)).length ≤ 1000000 := Nat.zero_le _
            obtain ⟨init, hinit⟩ : ∃ l, l = L := ⟨_, rfl⟩
            obtain ⟨z, hz⟩ : ∃ z : PzV, z = ⟨xa, xp, none, 0, []⟩ := ⟨_, rfl⟩
            rw [← hinit, ← hz] at hn7
            have hil : init.length ≤ 1000000 := by rw [hinit]; exact HX.out.2.2.2.1
            have hpm : pushC (piecesZ (C.take i)) ⟨xa, xp, xb⟩ = init.map PzV.m ++ [⟨z.at_, z.prot, z.bytes ++ [xb]⟩] := by rw [hz, hinit, HX.out.2.1]; exact hpush
            have hzl : z.bytes.length ≤ 140737488355328 - 1 := by rw [hz]; simp
            clear hz hinit hpush
            obtain ⟨g, cap, hgv⟩ := any_form hn7
            cases hgv
            obtain ⟨k7, kf7, kl7⟩ := any_cell hn7
            obtain ⟨M, hM⟩ : ∃ M, M = (init ++ [z]).length := ⟨_, rfl⟩
            have hMi : M = init.length + 1 := by rw [hM, List.length_append]; rfl
            have hil7 := hil
            obtain ⟨zn, hzn⟩ : ∃ n, n = z.bytes.length := ⟨_, rfl⟩
            obtain ⟨za, zq, zp, zc, zb⟩ := z
            dsimp only [PzV.sl] at k7 hzn hpm hzl
            rw [← hzn] at k7
            have hwl : IntKind.i64.wrap ((M : Int) - 1) = (init.length : Int) := (IntWalk.i64_in _ (by omega)).trans (by omega)
            have m1 : (0 : Int) ≤ (init.length : Int) := by omega
            have m2 : (init.length : Int) < (M : Int) := by omega
            have ho7 : OB W7 0 5 (.slice zp zn zc) zb := by rw [hzn]; exact hn7.own.each ⟨za, zq, zp, zc, zb⟩ (by simp)
            have hgz : (Value.slice zp zn zc).ownBlock ≠ some g := by rw [hzn]; exact fun e => (hn7.own.mx ⟨za, zq, zp, zc, zb⟩ (by simp) g e).2 rfl
            have HZ := hid (And.intro hn7 (And.intro ho7 (And.intro hzn (And.intro hM (And.intro hpm (And.intro hgz (And.intro kl7 hzl)))))))
            rw [← hM]
            clear hn7 ho7 hzn hM hpm hgz kl7 hMi hzl
            have hgcz : (Value.slice zp zn zc).ownBlock ≠ some gc := fun e => by have := ((HZ.out.1.own.mx ⟨za, zq, zp, zc, zb⟩ (by simp) gc (by show (Value.slice zp zb.length zc).ownBlock = _; rw [← HZ.out.2.2.1]; exact e)).1).1; have := HX.out.2.2.2.2.2.2.1; omega
            refine regionG (fun W : World => W.cell? ⟨g, init.length * 3 + 2, none⟩ = some (.slice zp zn zc) ∧ W.cell? ⟨gc, oc + i * 3 + 2, none⟩ = some (.int .u8 (xb.toNat : Int))) [20] (by kernel_rfl) ?_
            have hS : (fun W : World => W.cell? ⟨g, init.length * 3 + 2, none⟩ = some (.slice zp zn zc) ∧ W.cell? ⟨gc, oc + i * 3 + 2, none⟩ = some (.int .u8 (xb.toNat : Int))) W7.drew := ⟨k7, hc7⟩
            refine takeW (i := 0) rfl (by kernel_rfl) (by kernel_rfl) (by kernel_rfl) (by kernel_rfl) (fun _ _ _ h => h) (.inr hS) (.inl ⟨by rfl, by intro _ _; go_simp; with_reducible rfl⟩) ?_
            try simp only [Act.put, List.setIfInBounds_toArray, List.set_cons_zero, List.set_cons_succ]
            refine takeW (i := 1) rfl (by kernel_rfl) (by kernel_rfl) (by kernel_rfl) (by kernel_rfl) (fun _ _ _ h => h) (.inr hS) (.inl ⟨by rfl, by intro _ _; go_simp; with_reducible rfl⟩) ?_
            try simp only [Act.put, List.setIfInBounds_toArray, List.set_cons_zero, List.set_cons_succ]
            refine takeW (i := 2) rfl (by kernel_rfl) (by kernel_rfl) (by kernel_rfl) (by kernel_rfl) (fun _ _ _ h => h) (.inr hS) (.inl ⟨by rfl, by intro _ _; go_simp; with_reducible rfl⟩) ?_
            try simp only [Act.put, List.setIfInBounds_toArray, List.set_cons_zero, List.set_cons_succ]
            refine takeW (i := 3) rfl (by kernel_rfl) (by kernel_rfl) (by kernel_rfl) (by kernel_rfl) (fun _ _ _ h => h) (.inr hS) (.inl ⟨by rfl, by intro _ _; go_simp; with_reducible rfl⟩) ?_
            try simp only [Act.put, List.setIfInBounds_toArray, List.set_cons_zero, List.set_cons_succ]
            refine takeW (i := 4) rfl (by kernel_rfl) (by kernel_rfl) (by kernel_rfl) (by kernel_rfl) (fun _ _ _ h => h) (.inr hS) (.inl ⟨by rfl, by intro _ _; go_simp; with_reducible rfl⟩) ?_
            try simp only [Act.put, List.setIfInBounds_toArray, List.set_cons_zero, List.set_cons_succ]
            refine takeW (i := 5) rfl (by kernel_rfl) (by kernel_rfl) (by kernel_rfl) (by kernel_rfl) (fun _ _ _ h => h) (.inr hS) (.inl ⟨by rfl, by intro _ _; go_simp; with_reducible rfl⟩) ?_
            try simp only [Act.put, List.setIfInBounds_toArray, List.set_cons_zero, List.set_cons_succ]
            refine takeW (i := 6) rfl (by kernel_rfl) (by kernel_rfl) (by kernel_rfl) (by kernel_rfl) (fun _ _ _ h => h) (.inr hS) (.inl ⟨by rfl, by intro _ _; go_simp; with_reducible rfl⟩) ?_
            try simp only [Act.put, List.setIfInBounds_toArray, List.set_cons_zero, List.set_cons_succ]
            refine takeW (i := 7) rfl (by kernel_rfl) (by kernel_rfl) (by kernel_rfl) (by kernel_rfl) (fun _ _ _ h => h) (.inr hS) (.inl ⟨by rfl, by intro _ _; go_simp; with_reducible rfl⟩) ?_
            try simp only [Act.put, List.setIfInBounds_toArray, List.set_cons_zero, List.set_cons_succ]
            refine takeW (i := 8) rfl (by kernel_rfl) (by kernel_rfl) (by kernel_rfl) (by kernel_rfl) (fun _ _ _ h => h) (.inr hS) (.inl ⟨by rfl, by intro _ _; go_simp; with_reducible rfl⟩) ?_
            try simp only [Act.put, List.setIfInBounds_toArray, List.set_cons_zero, List.set_cons_succ]
            refine takeW (i := 9) rfl (by kernel_rfl) (by kernel_rfl) (by kernel_rfl) (by kernel_rfl) (fun _ _ _ h => h) (.inr hS) (.inl ⟨by rfl, by intro _ _; go_simp; with_reducible rfl⟩) ?_
            try simp only [Act.put, List.setIfInBounds_toArray, List.set_cons_zero, List.set_cons_succ]
            refine takeL (i := 10) rfl (by kernel_rfl) (by kernel_rfl) (by kernel_rfl) (by kernel_rfl) (by kernel_rfl) (by kernel_rfl) (by kernel_rfl) (fun _ _ _ h => h) hS (.inl ⟨by rfl, by intro _ hSw; (try dsimp only at hSw); go_simp; with_reducible rfl⟩) ?_
            try simp only [Act.put, List.setIfInBounds_toArray, List.set_cons_zero, List.set_cons_succ]
            refine takeW (i := 11) rfl (by kernel_rfl) (by kernel_rfl) (by kernel_rfl) (by kernel_rfl) (fun _ _ _ h => h) (.inr hS) (.inl ⟨by rfl, by intro _ _; go_simp; with_reducible rfl⟩) ?_
            try simp only [Act.put, List.setIfInBounds_toArray, List.set_cons_zero, List.set_cons_succ]
            refine takeW (i := 12) rfl (by kernel_rfl) (by kernel_rfl) (by kernel_rfl) (by kernel_rfl) (fun _ _ _ h => h) (.inr hS) (.inl ⟨by rfl, by intro _ _; go_simp; with_reducible rfl⟩) ?_
            try simp only [Act.put, List.setIfInBounds_toArray, List.set_cons_zero, List.set_cons_succ]
            refine takeW (i := 13) rfl (by kernel_rfl) (by kernel_rfl) (by kernel_rfl) (by kernel_rfl) (fun _ _ _ h => h) (.inr hS) (.inl ⟨by rfl, by intro _ _; go_simp; with_reducible rfl⟩) ?_
            try simp only [Act.put, List.setIfInBounds_toArray, List.set_cons_zero, List.set_cons_succ]
            refine takeW (i := 14) rfl (by kernel_rfl) (by kernel_rfl) (by kernel_rfl) (by kernel_rfl) (fun _ _ _ h => h) (.inr hS) (.inl ⟨by rfl, by intro _ _; go_simp; with_reducible rfl⟩) ?_
            try simp only [Act.put, List.setIfInBounds_toArray, List.set_cons_zero, List.set_cons_succ]
            refine takeL (i := 15) rfl (by kernel_rfl) (by kernel_rfl) (by kernel_rfl) (by kernel_rfl) (by kernel_rfl) (by kernel_rfl) (by kernel_rfl) (fun _ _ _ h => h) hS (.inl ⟨by rfl, by intro _ hSw; (try dsimp only at hSw); go_simp; with_reducible rfl⟩) ?_
            try simp only [Act.put, List.setIfInBounds_toArray, List.set_cons_zero, List.set_cons_succ]
            refine readyG (rs := [16]) (by kernel_rfl) (by simp) (consG rfl (fun K hK => ?_) nilG)
            go_simp
            have hbA := fun o : Obj => (((Below.refl W7.heap.size W7).alloc (Nat.le_refl _) o).drew : Below W7.heap.size W7 _)
            refine hK.out _ _ (.inr ⟨below_cell' (hbA _) (World.block_lt_of_cell? W7 _ k7) k7, below_cell' (hbA _) (World.block_lt_of_cell? W7 _ hc7) hc7⟩) ?_
            clear hK K hS
            refine readyG (rs := [17]) (by kernel_rfl) (by simp) (consG rfl (fun K hK => ?_) nilG)
            refine step_bytes HI.out.2.2.2.2 _ rfl _ _ _ rfl 0 (.slice zp zn zc) zb rfl (OB.below HZ.out.2.1 (((Below.refl _ _).alloc (Nat.le_refl _) _).drew)) _ [xb] rfl (src_one (cl0 _ _ _)) (by have := HZ.out.2.2.2.2.2.2.2; simp; omega) (Nat.zero_le _) ?_
            intro v8 W8 ho8 hg8
            have hg8 := Grew.under (((Below.refl _ _).alloc (Nat.le_refl _) _).drew : Below W7.heap.size W7 _) hg8
            obtain ⟨p8, c8, hv8⟩ := ho8.form
            obtain ⟨n8, hn8⟩ : ∃ n, n = (zb ++ [xb]).length := ⟨_, rfl⟩
            rw [← hn8] at hv8
            subst hv8
            have k8 := hg8.cell k7 HZ.out.2.2.2.2.2.1
            have hS : (fun W : World => W.cell? ⟨g, init.length * 3 + 2, none⟩ = some (.slice zp zn zc) ∧ W.cell? ⟨gc, oc + i * 3 + 2, none⟩ = some (.int .u8 (xb.toNat : Int))) W8 := ⟨k8, hg8.cell hc7 hgcz⟩
            have kf8 : W8.frozen? ⟨g, init.length * 3 + 2, none⟩ = false := by
              obtain ⟨g', cap', cur, e, hcc, -⟩ := own3_rows pzLen HZ.out.1.own.own (i := init.length) (x := ⟨za, zq, zp, zc, zb⟩) (by simp)
              cases e
              exact frozen_of_row W8 g _ _ _ ((hg8.block HZ.out.2.2.2.2.2.2.1 HZ.out.2.2.2.2.2.1).trans hcc)
            have hfin := HZ.out.1.more (W1 := W7) (Below.refl _ _) (by show Grew W7 W8 (.slice zp zb.length zc) _; rw [← HZ.out.2.2.1]; exact hg8) hn8 ho8
            have HF := hid hfin
            have HN8 := hid hn8
            clear ho8 hg8 hfin k7 kf7 hn8 hc7 hgcz hbA
            refine hK.out _ _ (.inr hS) ?_
            clear hK K
            try simp only [Act.put, List.setIfInBounds_toArray, List.set_cons_zero, List.set_cons_succ]
            refine takeW (i := 18) rfl (by kernel_rfl) (by kernel_rfl) (by kernel_rfl) (by kernel_rfl) (fun _ _ _ h => h) (.inr hS) (.inl ⟨by rfl, by intro _ _; go_simp; with_reducible rfl⟩) ?_
            try simp only [Act.put, List.setIfInBounds_toArray, List.set_cons_zero, List.set_cons_succ]
            refine takeW (i := 19) rfl (by kernel_rfl) (by kernel_rfl) (by kernel_rfl) (by kernel_rfl) (fun _ _ _ h => h) (.inr hS) (.inl ⟨by rfl, by intro _ _; go_simp; with_reducible rfl⟩) ?_
            try simp only [Act.put, List.setIfInBounds_toArray, List.set_cons_zero, List.set_cons_succ]
            refine readyG (rs := [20]) (by kernel_rfl) (by simp) (consG rfl (fun K hK => ?_) nilG)
            go_simp
            refine hK.out _ _ (.inl (by kernel_rfl)) ?_
            clear hK K k8 kf8 hS
            refine doneG (by kernel_rfl) ?_ _
            go_wp2_with fail
            exact ⟨⟨i + 1, _, by have := HX.out.2.2.2.2.2.2.2; omega, by go_num, by rw [HZ.out.2.2.2.1]; exact HF.out, by rw [HX.out.2.2.1, HZ.out.2.2.2.2.1, List.map_append]; rfl⟩, by have := HX.out.2.2.2.2.2.2.2; simp [intOf]; omega⟩
        · have hb0 : ((xa : Int) != (ya : Int) + 1) = true := by simp only [bne_iff_ne]; omega
          have hpush : pushC (piecesZ (C.take i)) ⟨xa, xp, xb⟩ = (piecesZ (C.take i)) ++ [⟨xa, xp, [xb]⟩] := by
            rw [HY.out.1, pushC_snoc, if_neg (fun h => hxa (by rw [← HY.out.2.1]; exact h.1.symm))]
          have Hx := hid hxa
          clear hxa
          go_upto_region 5 with fail
          go_quiet (fail)
          go_upto_region 6 with fail
          generalize hV : World.drewN wr _ = V
          have hbV : Below wr.heap.size wr V := by rw [← hV]; exact below_drewNP (Below.refl _ _) _
          clear hV
          have hnV := HX.out.1.below hbV
          have HV := hid (And.intro hbV hnV)
          refine regionG (fun W : World => W.cell? ⟨gc, oc + i * 3, none⟩ = some (.int .u64 (xa : Int)) ∧ W.cell? ⟨gc, oc + i * 3 + 1, none⟩ = some (.int .i64 xp)) [12] (by kernel_rfl) ?_
          have hS : (fun W : World => W.cell? ⟨gc, oc + i * 3, none⟩ = some (.int .u64 (xa : Int)) ∧ W.cell? ⟨gc, oc + i * 3 + 1, none⟩ = some (.int .i64 xp)) V.drew := ⟨(HX.out.2.2.2.2.2.1 V hbV).1, (HX.out.2.2.2.2.2.1 V hbV).2.1⟩
          clear hbV hnV y0 y1 y2
          refine takeW (i := 0) rfl (by kernel_rfl) (by kernel_rfl) (by kernel_rfl) (by kernel_rfl) (fun _ _ _ h => h) (.inr hS) (.inl ⟨by rfl, by intro _ _; go_simp; with_reducible rfl⟩) ?_
          try simp only [Act.put, List.setIfInBounds_toArray, List.set_cons_zero, List.set_cons_succ]
          refine takeW (i := 1) rfl (by kernel_rfl) (by kernel_rfl) (by kernel_rfl) (by kernel_rfl) (fun _ _ _ h => h) (.inr hS) (.inl ⟨by rfl, by intro _ _; go_simp; with_reducible rfl⟩) ?_
          try simp only [Act.put, List.setIfInBounds_toArray, List.set_cons_zero, List.set_cons_succ]
          refine takeW (i := 2) rfl (by kernel_rfl) (by kernel_rfl) (by kernel_rfl) (by kernel_rfl) (fun _ _ _ h => h) (.inr hS) (.inl ⟨by rfl, by intro _ _; go_simp; with_reducible rfl⟩) ?_
          try simp only [Act.put, List.setIfInBounds_toArray, List.set_cons_zero, List.set_cons_succ]
          refine takeW (i := 3) rfl (by kernel_rfl) (by kernel_rfl) (by kernel_rfl) (by kernel_rfl) (fun _ _ _ h => h) (.inr hS) (.inl ⟨by rfl, by intro _ _; go_simp; with_reducible rfl⟩) ?_
          try simp only [Act.put, List.setIfInBounds_toArray, List.set_cons_zero, List.set_cons_succ]
          refine takeW (i := 4) rfl (by kernel_rfl) (by kernel_rfl) (by kernel_rfl) (by kernel_rfl) (fun _ _ _ h => h) (.inr hS) (.inl ⟨by rfl, by intro _ _; go_simp; with_reducible rfl⟩) ?_
          try simp only [Act.put, List.setIfInBounds_toArray, List.set_cons_zero, List.set_cons_succ]
          refine takeL (i := 5) rfl (by kernel_rfl) (by kernel_rfl) (by kernel_rfl) (by kernel_rfl) (by kernel_rfl) (by kernel_rfl) (by kernel_rfl) (fun _ _ _ h => h) hS (.inl ⟨by rfl, by intro _ hSw; (try dsimp only at hSw); go_simp; with_reducible rfl⟩) ?_
          try simp only [Act.put, List.setIfInBounds_toArray, List.set_cons_zero, List.set_cons_succ]
          refine takeW (i := 6) rfl (by kernel_rfl) (by kernel_rfl) (by kernel_rfl) (by kernel_rfl) (fun _ _ _ h => h) (.inr hS) (.inl ⟨by rfl, by intro _ _; go_simp; with_reducible rfl⟩) ?_
          try simp only [Act.put, List.setIfInBounds_toArray, List.set_cons_zero, List.set_cons_succ]
          refine takeW (i := 7) rfl (by kernel_rfl) (by kernel_rfl) (by kernel_rfl) (by kernel_rfl) (fun _ _ _ h => h) (.inr hS) (.inl ⟨by rfl, by intro _ _; go_simp; with_reducible rfl⟩) ?_
          try simp only [Act.put, List.setIfInBounds_toArray, List.set_cons_zero, List.set_cons_succ]
          refine takeW (i := 8) rfl (by kernel_rfl) (by kernel_rfl) (by kernel_rfl) (by kernel_rfl) (fun _ _ _ h => h) (.inr hS) (.inl ⟨by rfl, by intro _ _; go_simp; with_reducible rfl⟩) ?_
          try simp only [Act.put, List.setIfInBounds_toArray, List.set_cons_zero, List.set_cons_succ]
          refine takeW (i := 9) rfl (by kernel_rfl) (by kernel_rfl) (by kernel_rfl) (by kernel_rfl) (fun _ _ _ h => h) (.inr hS) (.inl ⟨by rfl, by intro _ _; go_simp; with_reducible rfl⟩) ?_
          try simp only [Act.put, List.setIfInBounds_toArray, List.set_cons_zero, List.set_cons_succ]
          refine takeL (i := 10) rfl (by kernel_rfl) (by kernel_rfl) (by kernel_rfl) (by kernel_rfl) (by kernel_rfl) (by kernel_rfl) (by kernel_rfl) (fun _ _ _ h => h) hS (.inl ⟨by rfl, by intro _ hSw; (try dsimp only at hSw); go_simp; with_reducible rfl⟩) ?_
          try simp only [Act.put, List.setIfInBounds_toArray, List.set_cons_zero, List.set_cons_succ]
          refine takeW (i := 11) rfl (by kernel_rfl) (by kernel_rfl) (by kernel_rfl) (by kernel_rfl) (fun _ _ _ h => h) (.inr hS) (.inl ⟨by rfl, by intro _ _; go_simp; with_reducible rfl⟩) ?_
          try simp only [Act.put, List.setIfInBounds_toArray, List.set_cons_zero, List.set_cons_succ]
          refine readyG (rs := [12]) (by kernel_rfl) (by simp) (consG rfl (fun K hK => ?_) nilG)
          go_simp
          refine hK.out _ _ (.inl (by kernel_rfl)) ?_
          clear hK K hS
          refine readyG (rs := [13]) (by kernel_rfl) (by simp) (consG rfl (fun K hK => ?_) nilG)
          refine step_grewB _ rfl _ _ _ _ rfl w.heap.size 45 ip _ 3 40 Try.underlying22 HI.out.1 HI.out.2.1 HI.out.2.2.1 HI.out.2.2.2.1 rfl (.slice q1 q2 q3) L.length (L.flatMap PzV.cells) rfl (ownsRow_below (own_base HV.out.2) (((Below.refl _ _).alloc (Nat.le_refl _) _).drew)) _ 1 [.int .u64 (xa : Int), .int .i64 xp, .slice none 0 0] rfl (src_laidDB _ Try.underlying22 [.int .u64 (xa : Int), .int .i64 xp, .slice none 0 0] 1 rfl (by simp [Value.oneCell']) (0, 0) rfl) (Nat.le_trans (show L.length + 1 ≤ 1000001 by have := HX.out.2.2.2.1; omega) (by decide)) (by have := HX.out.2.2.2.1; omega) (by have := HV.out.2.bel.size; simp; omega) ?_
          intro v6 W7 ho6 hg6
          have hn7 := HV.out.2.push (W1 := V) (Below.refl _ _) (Grew.under (((Below.refl _ _).alloc (Nat.le_refl _) _).drew) hg6) xa xp ho6
          obtain ⟨p6, n6, c6, rfl⟩ := own_form ho6
          have hW7 : Below w.heap.size w W7 := hn7.bel
          have hc7 : W7.cell? ⟨gc, oc + i * 3 + 2, none⟩ = some (.int .u8 (xb.toNat : Int)) := by
            have h1 := (HX.out.2.2.2.2.2.1 V HV.out.1).2.2
            exact (World.cell?_of_block ((hn7.bel.block gc HX.out.2.2.2.2.2.2.1).trans (HV.out.2.bel.block gc HX.out.2.2.2.2.2.2.1).symm)).trans h1
          clear ho6 hg6
          refine hK.out _ _ (.inl (by kernel_rfl)) ?_
          clear hK K
          try simp only [Act.put, List.setIfInBounds_toArray, List.set_cons_zero, List.set_cons_succ]
          refine takeW (i := 14) rfl (by kernel_rfl) (by kernel_rfl) (by kernel_rfl) (by kernel_rfl) (fun _ _ _ h => h) (.inl (by kernel_rfl)) (.inl ⟨by rfl, by intro _ _; go_simp; with_reducible rfl⟩) ?_
          try simp only [Act.put, List.setIfInBounds_toArray, List.set_cons_zero, List.set_cons_succ]
          refine doneG (by kernel_rfl) ?_ _
          go_upto_region 7 with fail
          have hzl : (([] : List UInt8)).length ≤ 1000000 := Nat.zero_le _
          obtain ⟨init, hinit⟩ : ∃ l, l = L := ⟨_, rfl⟩
          obtain ⟨z, hz⟩ : ∃ z : PzV, z = ⟨xa, xp, none, 0, []⟩ := ⟨_, rfl⟩
          rw [← hinit, ← hz] at hn7
          have hil : init.length ≤ 1000000 := by rw [hinit]; exact HX.out.2.2.2.1
          have hpm : pushC (piecesZ (C.take i)) ⟨xa, xp, xb⟩ = init.map PzV.m ++ [⟨z.at_, z.prot, z.bytes ++ [xb]⟩] := by rw [hz, hinit, HX.out.2.1]; exact hpush
          have hzl : z.bytes.length ≤ 140737488355328 - 1 := by rw [hz]; simp
          clear hz hinit hpush
          obtain ⟨g, cap, hgv⟩ := any_form hn7
          cases hgv
          obtain ⟨k7, kf7, kl7⟩ := any_cell hn7
          obtain ⟨M, hM⟩ : ∃ M, M = (init ++ [z]).length := ⟨_, rfl⟩
          have hMi : M = init.length + 1 := by rw [hM, List.length_append]; rfl
          have hil7 := hil
          obtain ⟨zn, hzn⟩ : ∃ n, n = z.bytes.length := ⟨_, rfl⟩
          obtain ⟨za, zq, zp, zc, zb⟩ := z
          dsimp only [PzV.sl] at k7 hzn hpm hzl
          rw [← hzn] at k7
          have hwl : IntKind.i64.wrap ((M : Int) - 1) = (init.length : Int) := (IntWalk.i64_in _ (by omega)).trans (by omega)
          have m1 : (0 : Int) ≤ (init.length : Int) := by omega
          have m2 : (init.length : Int) < (M : Int) := by omega
          have ho7 : OB W7 0 5 (.slice zp zn zc) zb := by rw [hzn]; exact hn7.own.each ⟨za, zq, zp, zc, zb⟩ (by simp)
          have hgz : (Value.slice zp zn zc).ownBlock ≠ some g := by rw [hzn]; exact fun e => (hn7.own.mx ⟨za, zq, zp, zc, zb⟩ (by simp) g e).2 rfl
          have HZ := hid (And.intro hn7 (And.intro ho7 (And.intro hzn (And.intro hM (And.intro hpm (And.intro hgz (And.intro kl7 hzl)))))))
          rw [← hM]
          clear hn7 ho7 hzn hM hpm hgz kl7 hMi hzl
          have hgcz : (Value.slice zp zn zc).ownBlock ≠ some gc := fun e => by have := ((HZ.out.1.own.mx ⟨za, zq, zp, zc, zb⟩ (by simp) gc (by show (Value.slice zp zb.length zc).ownBlock = _; rw [← HZ.out.2.2.1]; exact e)).1).1; have := HX.out.2.2.2.2.2.2.1; omega
          refine regionG (fun W : World => W.cell? ⟨g, init.length * 3 + 2, none⟩ = some (.slice zp zn zc) ∧ W.cell? ⟨gc, oc + i * 3 + 2, none⟩ = some (.int .u8 (xb.toNat : Int))) [20] (by kernel_rfl) ?_
          have hS : (fun W : World => W.cell? ⟨g, init.length * 3 + 2, none⟩ = some (.slice zp zn zc) ∧ W.cell? ⟨gc, oc + i * 3 + 2, none⟩ = some (.int .u8 (xb.toNat : Int))) W7.drew := ⟨k7, hc7⟩
          refine takeW (i := 0) rfl (by kernel_rfl) (by kernel_rfl) (by kernel_rfl) (by kernel_rfl) (fun _ _ _ h => h) (.inr hS) (.inl ⟨by rfl, by intro _ _; go_simp; with_reducible rfl⟩) ?_
          try simp only [Act.put, List.setIfInBounds_toArray, List.set_cons_zero, List.set_cons_succ]
          refine takeW (i := 1) rfl (by kernel_rfl) (by kernel_rfl) (by kernel_rfl) (by kernel_rfl) (fun _ _ _ h => h) (.inr hS) (.inl ⟨by rfl, by intro _ _; go_simp; with_reducible rfl⟩) ?_
          try simp only [Act.put, List.setIfInBounds_toArray, List.set_cons_zero, List.set_cons_succ]
          refine takeW (i := 2) rfl (by kernel_rfl) (by kernel_rfl) (by kernel_rfl) (by kernel_rfl) (fun _ _ _ h => h) (.inr hS) (.inl ⟨by rfl, by intro _ _; go_simp; with_reducible rfl⟩) ?_
          try simp only [Act.put, List.setIfInBounds_toArray, List.set_cons_zero, List.set_cons_succ]
          refine takeW (i := 3) rfl (by kernel_rfl) (by kernel_rfl) (by kernel_rfl) (by kernel_rfl) (fun _ _ _ h => h) (.inr hS) (.inl ⟨by rfl, by intro _ _; go_simp; with_reducible rfl⟩) ?_
          try simp only [Act.put, List.setIfInBounds_toArray, List.set_cons_zero, List.set_cons_succ]
          refine takeW (i := 4) rfl (by kernel_rfl) (by kernel_rfl) (by kernel_rfl) (by kernel_rfl) (fun _ _ _ h => h) (.inr hS) (.inl ⟨by rfl, by intro _ _; go_simp; with_reducible rfl⟩) ?_
          try simp only [Act.put, List.setIfInBounds_toArray, List.set_cons_zero, List.set_cons_succ]
          refine takeW (i := 5) rfl (by kernel_rfl) (by kernel_rfl) (by kernel_rfl) (by kernel_rfl) (fun _ _ _ h => h) (.inr hS) (.inl ⟨by rfl, by intro _ _; go_simp; with_reducible rfl⟩) ?_
          try simp only [Act.put, List.setIfInBounds_toArray, List.set_cons_zero, List.set_cons_succ]
          refine takeW (i := 6) rfl (by kernel_rfl) (by kernel_rfl) (by kernel_rfl) (by kernel_rfl) (fun _ _ _ h => h) (.inr hS) (.inl ⟨by rfl, by intro _ _; go_simp; with_reducible rfl⟩) ?_
          try simp only [Act.put, List.setIfInBounds_toArray, List.set_cons_zero, List.set_cons_succ]
          refine takeW (i := 7) rfl (by kernel_rfl) (by kernel_rfl) (by kernel_rfl) (by kernel_rfl) (fun _ _ _ h => h) (.inr hS) (.inl ⟨by rfl, by intro _ _; go_simp; with_reducible rfl⟩) ?_
          try simp only [Act.put, List.setIfInBounds_toArray, List.set_cons_zero, List.set_cons_succ]
          refine takeW (i := 8) rfl (by kernel_rfl) (by kernel_rfl) (by kernel_rfl) (by kernel_rfl) (fun _ _ _ h => h) (.inr hS) (.inl ⟨by rfl, by intro _ _; go_simp; with_reducible rfl⟩) ?_
          try simp only [Act.put, List.setIfInBounds_toArray, List.set_cons_zero, List.set_cons_succ]
          refine takeW (i := 9) rfl (by kernel_rfl) (by kernel_rfl) (by kernel_rfl) (by kernel_rfl) (fun _ _ _ h => h) (.inr hS) (.inl ⟨by rfl, by intro _ _; go_simp; with_reducible rfl⟩) ?_
          try simp only [Act.put, List.setIfInBounds_toArray, List.set_cons_zero, List.set_cons_succ]
          refine takeL (i := 10) rfl (by kernel_rfl) (by kernel_rfl) (by kernel_rfl) (by kernel_rfl) (by kernel_rfl) (by kernel_rfl) (by kernel_rfl) (fun _ _ _ h => h) hS (.inl ⟨by rfl, by intro _ hSw; (try dsimp only at hSw); go_simp; with_reducible rfl⟩) ?_
          try simp only [Act.put, List.setIfInBounds_toArray, List.set_cons_zero, List.set_cons_succ]
          refine takeW (i := 11) rfl (by kernel_rfl) (by kernel_rfl) (by kernel_rfl) (by kernel_rfl) (fun _ _ _ h => h) (.inr hS) (.inl ⟨by rfl, by intro _ _; go_simp; with_reducible rfl⟩) ?_
          try simp only [Act.put, List.setIfInBounds_toArray, List.set_cons_zero, List.set_cons_succ]
          refine takeW (i := 12) rfl (by kernel_rfl) (by kernel_rfl) (by kernel_rfl) (by kernel_rfl) (fun _ _ _ h => h) (.inr hS) (.inl ⟨by rfl, by intro _ _; go_simp; with_reducible rfl⟩) ?_
          try simp only [Act.put, List.setIfInBounds_toArray, List.set_cons_zero, List.set_cons_succ]
          refine takeW (i := 13) rfl (by kernel_rfl) (by kernel_rfl) (by kernel_rfl) (by kernel_rfl) (fun _ _ _ h => h) (.inr hS) (.inl ⟨by rfl, by intro _ _; go_simp; with_reducible rfl⟩) ?_
          try simp only [Act.put, List.setIfInBounds_toArray, List.set_cons_zero, List.set_cons_succ]
          refine takeW (i := 14) rfl (by kernel_rfl) (by kernel_rfl) (by kernel_rfl) (by kernel_rfl) (fun _ _ _ h => h) (.inr hS) (.inl ⟨by rfl, by intro _ _; go_simp; with_reducible rfl⟩) ?_
          try simp only [Act.put, List.setIfInBounds_toArray, List.set_cons_zero, List.set_cons_succ]
          refine takeL (i := 15) rfl (by kernel_rfl) (by kernel_rfl) (by kernel_rfl) (by kernel_rfl) (by kernel_rfl) (by kernel_rfl) (by kernel_rfl) (fun _ _ _ h => h) hS (.inl ⟨by rfl, by intro _ hSw; (try dsimp only at hSw); go_simp; with_reducible rfl⟩) ?_
          try simp only [Act.put, List.setIfInBounds_toArray, List.set_cons_zero, List.set_cons_succ]
          refine readyG (rs := [16]) (by kernel_rfl) (by simp) (consG rfl (fun K hK => ?_) nilG)
          go_simp
          have hbA := fun o : Obj => (((Below.refl W7.heap.size W7).alloc (Nat.le_refl _) o).drew : Below W7.heap.size W7 _)
          refine hK.out _ _ (.inr ⟨below_cell' (hbA _) (World.block_lt_of_cell? W7 _ k7) k7, below_cell' (hbA _) (World.block_lt_of_cell? W7 _ hc7) hc7⟩) ?_
          clear hK K hS
          refine readyG (rs := [17]) (by kernel_rfl) (by simp) (consG rfl (fun K hK => ?_) nilG)
          refine step_bytes HI.out.2.2.2.2 _ rfl _ _ _ rfl 0 (.slice zp zn zc) zb rfl (OB.below HZ.out.2.1 (((Below.refl _ _).alloc (Nat.le_refl _) _).drew)) _ [xb] rfl (src_one (cl0 _ _ _)) (by have := HZ.out.2.2.2.2.2.2.2; simp; omega) (Nat.zero_le _) ?_
          intro v8 W8 ho8 hg8
          have hg8 := Grew.under (((Below.refl _ _).alloc (Nat.le_refl _) _).drew : Below W7.heap.size W7 _) hg8
          obtain ⟨p8, c8, hv8⟩ := ho8.form
          obtain ⟨n8, hn8⟩ : ∃ n, n = (zb ++ [xb]).length := ⟨_, rfl⟩
          rw [← hn8] at hv8
          subst hv8
          have k8 := hg8.cell k7 HZ.out.2.2.2.2.2.1
          have hS : (fun W : World => W.cell? ⟨g, init.length * 3 + 2, none⟩ = some (.slice zp zn zc) ∧ W.cell? ⟨gc, oc + i * 3 + 2, none⟩ = some (.int .u8 (xb.toNat : Int))) W8 := ⟨k8, hg8.cell hc7 hgcz⟩
          have kf8 : W8.frozen? ⟨g, init.length * 3 + 2, none⟩ = false := by
            obtain ⟨g', cap', cur, e, hcc, -⟩ := own3_rows pzLen HZ.out.1.own.own (i := init.length) (x := ⟨za, zq, zp, zc, zb⟩) (by simp)
            cases e
            exact frozen_of_row W8 g _ _ _ ((hg8.block HZ.out.2.2.2.2.2.2.1 HZ.out.2.2.2.2.2.1).trans hcc)
          have hfin := HZ.out.1.more (W1 := W7) (Below.refl _ _) (by show Grew W7 W8 (.slice zp zb.length zc) _; rw [← HZ.out.2.2.1]; exact hg8) hn8 ho8
          have HF := hid hfin
          have HN8 := hid hn8
          clear ho8 hg8 hfin k7 kf7 hn8 hc7 hgcz hbA
          refine hK.out _ _ (.inr hS) ?_
          clear hK K
          try simp only [Act.put, List.setIfInBounds_toArray, List.set_cons_zero, List.set_cons_succ]
          refine takeW (i := 18) rfl (by kernel_rfl) (by kernel_rfl) (by kernel_rfl) (by kernel_rfl) (fun _ _ _ h => h) (.inr hS) (.inl ⟨by rfl, by intro _ _; go_simp; with_reducible rfl⟩) ?_
          try simp only [Act.put, List.setIfInBounds_toArray, List.set_cons_zero, List.set_cons_succ]
          refine takeW (i := 19) rfl (by kernel_rfl) (by kernel_rfl) (by kernel_rfl) (by kernel_rfl) (fun _ _ _ h => h) (.inr hS) (.inl ⟨by rfl, by intro _ _; go_simp; with_reducible rfl⟩) ?_
          try simp only [Act.put, List.setIfInBounds_toArray, List.set_cons_zero, List.set_cons_succ]
          refine readyG (rs := [20]) (by kernel_rfl) (by simp) (consG rfl (fun K hK => ?_) nilG)
          go_simp
          refine hK.out _ _ (.inl (by kernel_rfl)) ?_
          clear hK K k8 kf8 hS
          refine doneG (by kernel_rfl) ?_ _
          go_wp2_with fail
          exact ⟨⟨i + 1, _, by have := HX.out.2.2.2.2.2.2.2; omega, by go_num, by rw [HZ.out.2.2.2.1]; exact HF.out, by rw [HX.out.2.2.1, HZ.out.2.2.2.2.1, List.map_append]; rfl⟩, by have := HX.out.2.2.2.2.2.2.2; simp [intOf]; omega⟩
    · have hltz : decide ((i : Int) < (N : Int)) = false := decide_eq_false (by omega)
      have hltz2 : decide (i < N) = false := decide_eq_false hlt
      have hin : i = C.length := by have := H.out.2.2.2; omega
      rw [hin, List.take_length] at hLm
      have hok := pieces_ok C H.out.2.1
      have hf : NewOwn w wr (.slice q1 q2 q3) (piecesZ C) := ⟨hno.bel, L, hno.own.any (fun x hx => hok x.m (by rw [← hLm]; exact List.mem_map_of_mem hx)), hLm⟩
      have HF := hid hf
      clear hno hLm hin hok hf hi
      go_wp2_with fail
      go_ret
      exact ⟨_, rfl, HF.out⟩
end Go.Proofs.Ythlnjfnjmjdohaa
