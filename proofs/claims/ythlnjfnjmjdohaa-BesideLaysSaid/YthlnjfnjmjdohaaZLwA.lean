/- The law's helpers over pieces: much, own, row. -/
import Derived.Test.YthlnjfnjmjdohaaZBrD
namespace Go.Proofs.Ythlnjfnjmjdohaa
set_option linter.unusedSimpArgs false
set_option linter.unusedVariables false
open Go.RowKit

theorem OwnPzG.readsG {K : PzV → Prop} {M : Nat → Prop} {W : World} {v : Value} {L : List PzV} (h : OwnPzG K M W v L) (hk : ∀ x ∈ L, x.bytes.length ≤ 140737488355328 ∧ x.at_ < 2 ^ 64) : PzsAt W v L :=
  ⟨own3_reads pzLen h.own, fun x hx => (h.each x hx).bs (hk x hx).1, fun x hx => (hk x hx).2⟩
theorem ms_mem {L L' : List PzV} (h : L'.map PzV.m = L.map PzV.m) {x : PzV} (hx : x ∈ L') : ∃ y ∈ L, y.m = x.m := by
  have : x.m ∈ L.map PzV.m := by rw [← h]; exact List.mem_map_of_mem hx
  obtain ⟨y, hy, e⟩ := List.mem_map.1 this
  exact ⟨y, hy, e⟩
theorem src_bsB {iu : TypeInfo} (R : U8Row Try.prog 43 5 iu) {w : World} {p : Option Addr} {n cap : Nat} {l : List UInt8} (h : BS w (.slice p n cap) l) (hl : l.length = n) : Src Try.prog 1 43 (.slice p n cap) l.length (u8s l) w.drew := by
  rw [hl]
  exact Src.ofBS R.un (h.heap (w' := w.drew) rfl)
/-- Behind the append of a piece whose bytes are new. -/
theorem NewAny.snocB {w W W1 W' : World} {v v' : Value} {L : List PzV} {y : PzV} (h : NewAny w W v L) (hb : Below W.heap.size W W1) (hy : OB W1 0 5 y.sl y.bytes) (hyn : ∀ k, y.sl.ownBlock = some k → W.heap.size ≤ k) (hg : Grew W1 W' v v')
    (hgv : ∀ k, y.sl.ownBlock = some k → v'.ownBlock ≠ some k) (ho : W'.ownsRow w.heap.size 45 3 v' (L.length + 1) (L.flatMap PzV.cells ++ y.cells)) : NewAny w W' v' (L ++ [y]) := by
  have hv : ∀ k, v.ownBlock = some k → w.heap.size ≤ k ∧ k < W.heap.size := fun k hk => h.own.mv k hk
  have hlt := h.own.lt
  have hs := hb.size
  have hs2 := hg.size
  have lies : ∀ k, v'.ownBlock = some k → v.ownBlock = some k ∨ W.heap.size ≤ k := fun k hk => by
    rcases hg.lies with e | ⟨j, e, hj⟩
    · exact .inl (e ▸ hk)
    · rw [e] at hk; cases hk; exact .inr (Nat.le_trans hs hj)
  refine ⟨⟨hg.by_.os.trans (hb.os.trans h.bel.os), hg.by_.tape.trans (hb.tape.trans h.bel.tape), hg.by_.output.trans (hb.output.trans h.bel.output), Nat.le_trans h.bel.size (Nat.le_trans hs hs2), fun k hk => ?_⟩, ?_⟩
  · have hkW := Nat.lt_of_lt_of_le hk h.bel.size
    exact (hg.block (Nat.lt_of_lt_of_le hkW hs) (fun e => by have := (hv k e).1; omega)).trans ((hb.block k hkW).trans (h.bel.block k hk))
  · refine h.own.snoc (fun k hk => ⟨hk.1, by have := hk.2; omega⟩) (fun k hk hne => (hg.block (Nat.lt_of_lt_of_le hk.2 hs) hne).trans (hb.block k hk.2)) (ownsRow_base ho (Nat.zero_le _)) (fun k hk => ?_) (fun k hk => ?_) ?_ trivial
    · have hl := (World.ownsRow.lt ho k hk).2
      rcases lies k hk with e | e
      · exact ⟨⟨(hv k e).1, hl⟩, .inl e⟩
      · exact ⟨⟨Nat.le_trans h.bel.size e, hl⟩, .inr (fun hm => by have := hm.2; omega)⟩
    · have h1 := hyn k hk
      have h2 := hy.lt k hk
      refine ⟨⟨Nat.le_trans h.bel.size h1, Nat.lt_of_lt_of_le h2 hs2⟩, fun x hx e => ?_, hgv k hk⟩
      have := (h.own.mx x hx k e).1.2
      omega
    · exact owns_of_block hy (fun k hk => hg.block (hy.lt k hk) (fun e => by have := hyn k hk; have := (hv k e).2; omega))

set_option maxHeartbeats 2000000 in
set_option maxRecDepth 8000 in
theorem lw_much (w : World) (v : Value) (L : List PzV) (h : PzsAt w v L) :
    Calls Try.prog 6 #[v] w fun e w' => ∃ b, e = .returned (.bool b) ∧ Below w.heap.size w w' ∧ (b = false → L.length ≤ 60 ∧ (cellsZ (L.map PzV.m)).length ≤ 6000) := by
  obtain ⟨a, cap, rfl⟩ := RowsAt.form h.rows
  obtain ⟨N, hN⟩ : ∃ N, N = L.length := ⟨_, rfl⟩
  have hNl : N ≤ 9223372036854775807 := by rw [hN]; exact h.rows.len
  rw [← hN] at h ⊢
  have H := hid (And.intro h (And.intro hN hNl))
  clear h hN
  go_enter Try.func6, Try.ntmps6
  go_wp2_with fail
  go_loopw [3, 4] (fun vn vi wr => ∃ (k z : Nat), k ≤ N ∧ k ≤ 61 ∧ z ≤ k * 140737488355328 ∧ z = (cellsZ ((L.take k).map PzV.m)).length ∧ vn = .int .i64 (z : Int) ∧ vi = .int .i64 (k : Int) ∧ Below w.heap.size w wr) (fun _ vi _ => N - (intOf vi).toNat)
  case atStart => exact ⟨0, 0, Nat.zero_le _, Nat.zero_le _, by omega, rfl, rfl, rfl, Below.refl _ _⟩
  case round =>
    obtain ⟨k, z, hk, hk2, hz, hzc, rfl, rfl, hb⟩ := hrel
    by_cases hlt : k < N
    · by_cases hlt2 : k ≤ 60
      · obtain ⟨x, hx⟩ : ∃ x, L[k]? = some x := ⟨_, List.getElem?_eq_getElem (by rw [← H.out.2.1]; exact hlt)⟩
        have hAt := H.out.1.below hb
        obtain ⟨g, off, rfl, -, -, y2⟩ := hAt.cell hx
        have hsh := hAt.short (List.mem_of_getElem? hx)
        have hz1 : z + x.bytes.length = (cellsZ ((L.take (k + 1)).map PzV.m)).length := by rw [cellsZ_take hx, List.length_append, cellsAt_length, ← hzc]
        obtain ⟨n, hn⟩ : ∃ n, n = x.bytes.length := ⟨_, rfl⟩
        rw [← hn] at y2 hsh hz1
        have i1 : (0 : Int) ≤ (k : Int) := by omega
        have i2 : (k : Int) < (N : Int) := by omega
        have hltz : decide ((k : Int) < (N : Int)) = true := by rw [decide_eq_true_eq]; omega
        have hltn : decide (k < N) = true := by rw [decide_eq_true_eq]; omega
        have hl6 : decide ((k : Int) ≤ 60) = true := by rw [decide_eq_true_eq]; omega
        have hl6n : decide (k ≤ 60) = true := by rw [decide_eq_true_eq]; omega
        have hwz : IntKind.i64.wrap ((z : Int) + (n : Int)) = ((z + n : Nat) : Int) := (IntWalk.i64_in _ (by omega)).trans (by omega)
        have hwk : IntKind.i64.wrap ((k : Int) + 1) = ((k + 1 : Nat) : Int) := (IntWalk.i64_in _ (by omega)).trans (by omega)
        have HX := hid (And.intro hb (And.intro hz1 (And.intro hlt (And.intro hlt2 (And.intro hz (And.intro hsh hk2))))))
        clear hb hz1 hz hzc hn hk hk2 hlt hlt2 hsh hAt hx hNl
        go_wp2_with fail
        obtain ⟨hb, hz1, hlt, hlt2, hz, hsh, hk2⟩ := HX.out
        exact ⟨⟨k + 1, z + n, by omega, by omega, by omega, hz1, rfl, rfl, hb⟩, by simp only [intOf, Int.toNat_natCast]; omega⟩
      · have hN6 : 60 < N := by omega
        have i2 : (k : Int) < (N : Int) := by omega
        have hltz : decide ((k : Int) < (N : Int)) = true := by rw [decide_eq_true_eq]; omega
        have hltn : decide (k < N) = true := by rw [decide_eq_true_eq]; omega
        have hl6 : decide ((k : Int) ≤ 60) = false := by rw [decide_eq_false_iff_not]; omega
        have hl6n : decide (k ≤ 60) = false := by rw [decide_eq_false_iff_not]; omega
        have hg6 : decide ((60 : Int) < (N : Int)) = true := by rw [decide_eq_true_eq]; omega
        have hg6n : decide (60 < N) = true := by rw [decide_eq_true_eq]; omega
        have HX := hid (And.intro hb (And.intro hN6 hk2))
        clear hb hk hk2 hlt hlt2 hz hzc hNl hN6 i2
        go_wp2_with fail
        refine bodyPost_ret (v := .bool true) (by simp [results, Try.results6, go_sem]) rfl ?_
        exact ⟨true, rfl, HX.out.1, fun e => by cases e⟩
    · have hkN : k = N := by omega
      have hltz : decide ((k : Int) < (N : Int)) = false := by rw [decide_eq_false_iff_not]; omega
      have hltn : decide (k < N) = false := by rw [decide_eq_false_iff_not]; omega
      have hzt : z = (cellsZ (L.map PzV.m)).length := by rw [hzc, hkN, H.out.2.1, List.take_length]
      have HX := hid (And.intro hb (And.intro hkN (And.intro hzt hk2)))
      by_cases h6 : 60 < N
      · have hg6 : decide ((60 : Int) < (N : Int)) = true := by rw [decide_eq_true_eq]; omega
        have hg6n : decide (60 < N) = true := by rw [decide_eq_true_eq]; omega
        clear hb hk hk2 hlt hz hzc hNl hkN hzt h6
        go_wp2_with fail
        refine bodyPost_ret (v := .bool true) (by simp [results, Try.results6, go_sem]) rfl ?_
        exact ⟨true, rfl, HX.out.1, fun e => by cases e⟩
      · have hg6 : decide ((60 : Int) < (N : Int)) = false := by rw [decide_eq_false_iff_not]; omega
        have hg6n : decide (60 < N) = false := by rw [decide_eq_false_iff_not]; omega
        have HY := hid (And.intro (show N ≤ 60 by omega) H.out.2.1)
        clear hb hk hk2 hlt hz hzc hNl hkN hzt h6
        go_wp2_with fail
        refine bodyPost_ret (v := .bool (decide ((6000 : Int) < (z : Int)))) (by simp [results, Try.results6, go_sem]) rfl ?_
        refine ⟨_, rfl, HX.out.1, fun e => ⟨HY.out.1, ?_⟩⟩
        rw [decide_eq_false_iff_not] at e
        rw [← HX.out.2.2.1]
        omega

set_option maxHeartbeats 4000000 in
set_option maxRecDepth 8000 in
theorem lw_own (w : World) (v : Value) (L : List PzV) (h : PzsAt w v L) (hlen : L.length ≤ 1000000) :
    Calls Try.prog 8 #[v] w fun e w' => ∃ v' L', e = .returned v' ∧ Below w.heap.size w w' ∧ PzsAt w' v' L' ∧ L'.map PzV.m = L.map PzV.m := by
  obtain ⟨a, cap, rfl⟩ := RowsAt.form h.rows
  obtain ⟨N, hN⟩ : ∃ N, N = L.length := ⟨_, rfl⟩
  rw [← hN] at h hlen ⊢
  obtain ⟨ip, hip, hpz, hps, hpb⟩ := info_parts infoP1
  obtain ⟨iu, R⟩ := u8rowB
  have HI := hid (And.intro hip (And.intro hpz (And.intro hps (And.intro hpb R))))
  have H := hid (And.intro h (And.intro hlen hN))
  clear h hlen hN hip hpz hps hpb R
  go_enter Try.func8, Try.ntmps8
  go_wp2_with fail
  go_loopw [3, 4] (fun vo vi wr => ∃ (k : Nat) (C : List PzV), k ≤ N ∧ vi = .int .i64 (k : Int) ∧ NewAny w wr vo C ∧ C.map PzV.m = (L.take k).map PzV.m) (fun _ vi _ => N - (intOf vi).toNat)
  case atStart => exact ⟨0, [], Nat.zero_le _, rfl, ⟨Below.refl _ _, OwnPzG.nil _ _⟩, rfl⟩
  case round =>
    obtain ⟨k, C, hk, rfl, hno, hCm⟩ := hrel
    obtain ⟨q1, q2, q3, rfl⟩ := own_form hno.own.own
    by_cases hlt : k < N
    · obtain ⟨x, hx⟩ : ∃ x, L[k]? = some x := ⟨_, List.getElem?_eq_getElem (by rw [← H.out.2.2]; exact hlt)⟩
      have hAt := H.out.1.below hno.bel
      obtain ⟨g, off, rfl, y0, y1, y2⟩ := hAt.cell hx
      have hsh := hAt.short (List.mem_of_getElem? hx)
      have hbs := hAt.bytes x (List.mem_of_getElem? hx)
      have hgw : g < w.heap.size := by
        obtain ⟨g', off', e, z0, -, -⟩ := H.out.1.cell hx
        cases e
        exact World.block_lt_of_cell? w _ z0
      have hCl : C.length ≤ 1000000 := by
        have h1 := congrArg List.length hCm
        rw [List.length_map, List.length_map, List.length_take] at h1
        have h2 := H.out.2.1
        omega
      have htk : (L.take (k + 1)).map PzV.m = (L.take k).map PzV.m ++ [x.m] := by rw [List.take_add_one, hx]; simp
      obtain ⟨xa, xp, xs, xc, xb⟩ := x
      dsimp only at y0 y1 y2 hsh hbs
      obtain ⟨n, hn⟩ : ∃ n, n = xb.length := ⟨_, rfl⟩
      rw [← hn] at y2 hsh hbs
      have i1 : (0 : Int) ≤ (k : Int) := by omega
      have i2 : (k : Int) < (N : Int) := by omega
      have hltz : decide ((k : Int) < (N : Int)) = true := by rw [decide_eq_true_eq]; omega
      have hwk : IntKind.i64.wrap ((k : Int) + 1) = ((k + 1 : Nat) : Int) := (IntWalk.i64_in _ (by have := H.out.2.1; omega)).trans (by omega)
      have HX := hid (And.intro hno (And.intro hCm (And.intro htk (And.intro hbs (And.intro hn (And.intro hsh (And.intro hCl (And.intro hgw hlt))))))))
      clear hno hCm htk hbs hn hsh hCl hgw hlt hk hAt hx
      go_upto_region 5 with fail
      have hbV : Below wr.heap.size wr wr := Below.refl _ _
      have hnV := HX.out.1.below hbV
      have hgV : g < wr.heap.size := Nat.lt_of_lt_of_le HX.out.2.2.2.2.2.2.2.1 hnV.bel.size
      have hbsV := HX.out.2.2.2.1.below hbV
      have hS : (fun W : World => W.cell? ⟨g, off + k * 3, none⟩ = some (.int .u64 (xa : Int)) ∧ W.cell? ⟨g, off + k * 3 + 1, none⟩ = some (.int .i64 xp) ∧ W.cell? ⟨g, off + k * 3 + 2, none⟩ = some (.slice xs n xc)) wr.drew := ⟨y0, y1, y2⟩
      have hkeep : ∀ W, W.heap[g]? = wr.heap[g]? → (fun W : World => W.cell? ⟨g, off + k * 3, none⟩ = some (.int .u64 (xa : Int)) ∧ W.cell? ⟨g, off + k * 3 + 1, none⟩ = some (.int .i64 xp) ∧ W.cell? ⟨g, off + k * 3 + 2, none⟩ = some (.slice xs n xc)) W := fun W hW => ⟨(World.cell?_of_block hW).trans hS.1, (World.cell?_of_block hW).trans hS.2.1, (World.cell?_of_block hW).trans hS.2.2⟩
      have HV := hid (And.intro hnV (And.intro hgV (And.intro hbsV hkeep)))
      clear hbV hnV hgV hbsV hkeep y0 y1 y2
      refine regionG (fun W : World => W.cell? ⟨g, off + k * 3, none⟩ = some (.int .u64 (xa : Int)) ∧ W.cell? ⟨g, off + k * 3 + 1, none⟩ = some (.int .i64 xp) ∧ W.cell? ⟨g, off + k * 3 + 2, none⟩ = some (.slice xs n xc)) [] (by kernel_rfl) ?_
      refine takeW (i := 0) rfl (by kernel_rfl) (by kernel_rfl) (by kernel_rfl) (by kernel_rfl) (fun _ _ _ h => h) (.inr hS) (.inl ⟨by rfl, by intro _ _; go_simp; with_reducible rfl⟩) ?_
      try simp only [Act.put, List.setIfInBounds_toArray, List.set_cons_zero, List.set_cons_succ]
      refine takeW (i := 1) rfl (by kernel_rfl) (by kernel_rfl) (by kernel_rfl) (by kernel_rfl) (fun _ _ _ h => h) (.inr hS) (.inl ⟨by rfl, by intro _ _; go_simp; with_reducible rfl⟩) ?_
      try simp only [Act.put, List.setIfInBounds_toArray, List.set_cons_zero, List.set_cons_succ]
      refine takeW (i := 2) rfl (by kernel_rfl) (by kernel_rfl) (by kernel_rfl) (by kernel_rfl) (fun _ _ _ h => h) (.inr hS) (.inl ⟨by rfl, by intro _ _; go_simp; with_reducible rfl⟩) ?_
      try simp only [Act.put, List.setIfInBounds_toArray, List.set_cons_zero, List.set_cons_succ]
      refine takeW (i := 3) rfl (by kernel_rfl) (by kernel_rfl) (by kernel_rfl) (by kernel_rfl) (fun _ _ _ h => h) (.inr hS) (.inl ⟨by rfl, by intro _ _; go_simp; with_reducible rfl⟩) ?_
      try simp only [Act.put, List.setIfInBounds_toArray, List.set_cons_zero, List.set_cons_succ]
      refine takeW (i := 4) rfl (by kernel_rfl) (by kernel_rfl) (by kernel_rfl) (by kernel_rfl) (fun _ _ _ h => h) (.inr hS) (.inl ⟨by rfl, by intro _ _; go_simp; with_reducible rfl⟩) ?_
      try simp only [Act.put, List.setIfInBounds_toArray, List.set_cons_zero, List.set_cons_succ]
      refine takeL (i := 5) rfl (by kernel_rfl) (by kernel_rfl) (by kernel_rfl) (by kernel_rfl) (by kernel_rfl) (by kernel_rfl) (by kernel_rfl) (fun _ _ _ h => h) hS (.inl ⟨by rfl, by intro _ hSw; (try dsimp only at hSw); go_simp; with_reducible rfl⟩) ?_
      try simp only [Act.put, List.setIfInBounds_toArray, List.set_cons_zero, List.set_cons_succ]
      refine takeW (i := 6) rfl (by kernel_rfl) (by kernel_rfl) (by kernel_rfl) (by kernel_rfl) (fun _ _ _ h => h) (.inr hS) (.inl ⟨by rfl, by intro _ _; go_simp; with_reducible rfl⟩) ?_
      try simp only [Act.put, List.setIfInBounds_toArray, List.set_cons_zero, List.set_cons_succ]
      refine takeW (i := 7) rfl (by kernel_rfl) (by kernel_rfl) (by kernel_rfl) (by kernel_rfl) (fun _ _ _ h => h) (.inr hS) (.inl ⟨by rfl, by intro _ _; go_simp; with_reducible rfl⟩) ?_
      try simp only [Act.put, List.setIfInBounds_toArray, List.set_cons_zero, List.set_cons_succ]
      refine takeW (i := 8) rfl (by kernel_rfl) (by kernel_rfl) (by kernel_rfl) (by kernel_rfl) (fun _ _ _ h => h) (.inr hS) (.inl ⟨by rfl, by intro _ _; go_simp; with_reducible rfl⟩) ?_
      try simp only [Act.put, List.setIfInBounds_toArray, List.set_cons_zero, List.set_cons_succ]
      refine takeW (i := 9) rfl (by kernel_rfl) (by kernel_rfl) (by kernel_rfl) (by kernel_rfl) (fun _ _ _ h => h) (.inr hS) (.inl ⟨by rfl, by intro _ _; go_simp; with_reducible rfl⟩) ?_
      try simp only [Act.put, List.setIfInBounds_toArray, List.set_cons_zero, List.set_cons_succ]
      refine takeL (i := 10) rfl (by kernel_rfl) (by kernel_rfl) (by kernel_rfl) (by kernel_rfl) (by kernel_rfl) (by kernel_rfl) (by kernel_rfl) (fun _ _ _ h => h) hS (.inl ⟨by rfl, by intro _ hSw; (try dsimp only at hSw); go_simp; with_reducible rfl⟩) ?_
      try simp only [Act.put, List.setIfInBounds_toArray, List.set_cons_zero, List.set_cons_succ]
      refine takeW (i := 11) rfl (by kernel_rfl) (by kernel_rfl) (by kernel_rfl) (by kernel_rfl) (fun _ _ _ h => h) (.inr hS) (.inl ⟨by rfl, by intro _ _; go_simp; with_reducible rfl⟩) ?_
      try simp only [Act.put, List.setIfInBounds_toArray, List.set_cons_zero, List.set_cons_succ]
      refine takeW (i := 12) rfl (by kernel_rfl) (by kernel_rfl) (by kernel_rfl) (by kernel_rfl) (fun _ _ _ h => h) (.inr hS) (.inl ⟨by rfl, by intro _ _; go_simp; with_reducible rfl⟩) ?_
      try simp only [Act.put, List.setIfInBounds_toArray, List.set_cons_zero, List.set_cons_succ]
      refine takeW (i := 13) rfl (by kernel_rfl) (by kernel_rfl) (by kernel_rfl) (by kernel_rfl) (fun _ _ _ h => h) (.inr hS) (.inl ⟨by rfl, by intro _ _; go_simp; with_reducible rfl⟩) ?_
      try simp only [Act.put, List.setIfInBounds_toArray, List.set_cons_zero, List.set_cons_succ]
      refine takeW (i := 14) rfl (by kernel_rfl) (by kernel_rfl) (by kernel_rfl) (by kernel_rfl) (fun _ _ _ h => h) (.inr hS) (.inl ⟨by rfl, by intro _ _; go_simp; with_reducible rfl⟩) ?_
      try simp only [Act.put, List.setIfInBounds_toArray, List.set_cons_zero, List.set_cons_succ]
      refine takeL (i := 15) rfl (by kernel_rfl) (by kernel_rfl) (by kernel_rfl) (by kernel_rfl) (by kernel_rfl) (by kernel_rfl) (by kernel_rfl) (fun _ _ _ h => h) hS (.inl ⟨by rfl, by intro _ hSw; (try dsimp only at hSw); go_simp; with_reducible rfl⟩) ?_
      try simp only [Act.put, List.setIfInBounds_toArray, List.set_cons_zero, List.set_cons_succ]
      clear hS
      refine readyG (rs := [16]) (by kernel_rfl) (by simp) (consG rfl (fun K hK => ?_) nilG)
      refine step_bytes HI.out.2.2.2.2 _ rfl _ _ _ rfl 0 (.slice none 0 0) [] rfl (OB.nil _ _ _) (.slice xs n xc) xb rfl (src_bsB HI.out.2.2.2.2 HV.out.2.2.1 HX.out.2.2.2.2.1.symm) (by have := HX.out.2.2.2.2.1; have := HX.out.2.2.2.2.2.1; simp; omega) (Nat.zero_le _) ?_
      intro v6 W6 ho6 hg6
      have hg6 := grew_drewB hg6
      have hb6 : Below wr.heap.size wr W6 := ⟨hg6.by_.os, hg6.by_.tape, hg6.by_.output, hg6.size, fun k hk => hg6.block hk (by intro e; cases e)⟩
      rw [List.nil_append] at ho6
      obtain ⟨p6, c6, hv6⟩ := ho6.form
      subst hv6
      have hn6 : ∀ k, (Value.slice p6 xb.length c6).ownBlock = some k → wr.heap.size ≤ k := fun k hk => by
        rcases hg6.lies with e | ⟨j, e, hj⟩
        · rw [e] at hk; cases hk
        · rw [e] at hk; cases hk; exact hj
      have HB := hid (And.intro hb6 (And.intro ho6 hn6))
      refine hK.out _ _ (.inr (HV.out.2.2.2 _ (hb6.block g HV.out.2.1))) ?_
      clear hK K hg6 hb6 ho6 hn6
      refine takeW (i := 17) rfl (by kernel_rfl) (by kernel_rfl) (by kernel_rfl) (by kernel_rfl) (fun _ _ _ h => h) (.inr (HV.out.2.2.2 _ (HB.out.1.block g HV.out.2.1))) (.inl ⟨by rfl, by intro _ _; go_simp; with_reducible rfl⟩) ?_
      try simp only [Act.put, List.setIfInBounds_toArray, List.set_cons_zero, List.set_cons_succ]
      refine readyG (rs := [18]) (by kernel_rfl) (by simp) (consG rfl (fun K hK => ?_) nilG)
      go_simp
      refine hK.out _ _ (.inr (HV.out.2.2.2 _ ((((Below.refl W6.heap.size W6).alloc (Nat.le_refl _) _).block g (Nat.lt_of_lt_of_le HV.out.2.1 HB.out.1.size)).trans (HB.out.1.block g HV.out.2.1)))) ?_
      clear hK K
      refine readyG (rs := [19]) (by kernel_rfl) (by simp) (consG rfl (fun K hK => ?_) nilG)
      refine step_grewB _ rfl _ _ _ _ rfl w.heap.size 45 ip _ 3 40 Try.underlying22 HI.out.1 HI.out.2.1 HI.out.2.2.1 HI.out.2.2.2.1 rfl (.slice q1 q2 q3) C.length (C.flatMap PzV.cells) rfl (ownsRow_below (own_base HV.out.1) (HB.out.1.trans (((Below.refl _ _).alloc (Nat.le_refl _) _).mono HB.out.1.size))) _ 1 [.int .u64 (xa : Int), .int .i64 xp, .slice p6 xb.length c6] rfl (Src.laid _ Try.underlying22 [.int .u64 (xa : Int), .int .i64 xp, .slice p6 xb.length c6] 1 rfl (by simp [Value.oneCell']) (0, 0) rfl) (Nat.le_trans (show C.length + 1 ≤ 1000001 by have := HX.out.2.2.2.2.2.2.1; omega) (by decide)) (by have := HX.out.2.2.2.2.2.2.1; omega) (by have := HV.out.1.bel.size; have := HB.out.1.size; simp; omega) ?_
      intro v7 W7 ho7 hg7
      have hal : Below W6.heap.size W6 (W6.alloc (.cells #[.int .u64 (xa : Int), .int .i64 xp, .slice p6 xb.length c6] 45)) := (Below.refl _ _).alloc (Nat.le_refl _) _
      have hg7' : Grew (W6.alloc (.cells #[.int .u64 (xa : Int), .int .i64 xp, .slice p6 xb.length c6] 45)) W7 (.slice q1 q2 q3) v7 := hg7
      have hg7 := hg7'
      have hbl : Below wr.heap.size wr (W6.alloc (.cells #[.int .u64 (xa : Int), .int .i64 xp, .slice p6 xb.length c6] 45)) := HB.out.1.trans (hal.mono HB.out.1.size)
      have hn7 : NewAny w W7 v7 (C ++ [⟨xa, xp, p6, c6, xb⟩]) := by
        refine HV.out.1.snocB (y := ⟨xa, xp, p6, c6, xb⟩) hbl (HB.out.2.1.below hal) HB.out.2.2 hg7 (fun k hk e => ?_) ho7
        have h1 := HB.out.2.2 k hk
        have h2 := HB.out.2.1.lt k hk
        rcases hg7.lies with e2 | ⟨j, e2, hj⟩
        · rw [e2] at e
          have := (HV.out.1.own.mv k e).2
          omega
        · rw [e2] at e
          cases e
          simp at hj
          omega
      obtain ⟨p7, n7, c7, rfl⟩ := own_form ho7
      have HN := hid hn7
      clear hg7 hg7' hal hbl hn7 ho7
      refine hK.out _ _ (.inr (HV.out.2.2.2 _ ((HN.out.bel.block g HX.out.2.2.2.2.2.2.2.1).trans (HV.out.1.bel.block g HX.out.2.2.2.2.2.2.2.1).symm))) ?_
      clear hK K
      refine takeW (i := 20) rfl (by kernel_rfl) (by kernel_rfl) (by kernel_rfl) (by kernel_rfl) (fun _ _ _ h => h) (.inr (HV.out.2.2.2 _ ((HN.out.bel.block g HX.out.2.2.2.2.2.2.2.1).trans (HV.out.1.bel.block g HX.out.2.2.2.2.2.2.2.1).symm))) (.inl ⟨by rfl, by intro _ _; go_simp; with_reducible rfl⟩) ?_
      try simp only [Act.put, List.setIfInBounds_toArray, List.set_cons_zero, List.set_cons_succ]
      refine doneG (by kernel_rfl) ?_ _
      go_wp2_with fail
      refine ⟨⟨k + 1, _, by have := HX.out.2.2.2.2.2.2.2.2; omega, rfl, HN.out, ?_⟩, by simp only [intOf, Int.toNat_natCast]; have := HX.out.2.2.2.2.2.2.2.2; omega⟩
      rw [List.map_append, HX.out.2.1, HX.out.2.2.1]
      rfl
    · have hkN : k = N := by omega
      have hltz : decide ((k : Int) < (N : Int)) = false := by rw [decide_eq_false_iff_not]; omega
      have hltn : decide (k < N) = false := by rw [decide_eq_false_iff_not]; omega
      have hCL : C.map PzV.m = L.map PzV.m := by rw [hCm, hkN, H.out.2.2, List.take_length]
      have hrd : PzsAt wr (.slice q1 q2 q3) C := hno.own.readsG (fun x hx => by
        obtain ⟨y, hy, e⟩ := ms_mem hCL hx
        have h1 := H.out.1.short hy
        have h2 := H.out.1.ats y hy
        have e1 : y.bytes = x.bytes := congrArg Pz.bytes e
        have e2 : y.at_ = x.at_ := congrArg Pz.at_ e
        rw [← e1, ← e2]
        exact ⟨h1, h2⟩)
      have HX := hid (And.intro hno.bel (And.intro hrd hCL))
      clear hno hCm hkN hlt hk hrd hCL
      go_wp2_with fail
      refine bodyPost_ret (v := .slice q1 q2 q3) (by simp [results, Try.results8, go_sem]) rfl ?_
      exact ⟨_, C, rfl, HX.out.1, HX.out.2.1, HX.out.2.2⟩

theorem PzsAt.one (w : World) (t : TypeId) (x : PzV) (h : BS w x.sl x.bytes) (ha : x.at_ < 2 ^ 64) : PzsAt (w.alloc (.cells x.cells.toArray t)) (.slice (some ⟨w.heap.size, 0, none⟩) 1 1) [x] := by
  refine ⟨⟨_, _, rfl, Nat.le_refl _, by decide, fun _ => ⟨w.heap.size, 0, rfl, fun i y hy j u hu => ?_⟩⟩, fun y hy => ?_, fun y hy => ?_⟩
  · cases i with
    | zero =>
      simp at hy; subst hy
      rw [show 0 + 0 * 3 + j = j by omega, cell_of_row _ _ j _ _ _ (heap_alloc_new w _)]
      simpa using hu
    | succ i => simp at hy
  · rw [List.mem_singleton] at hy; subst hy
    exact h.below ((Below.refl _ _).alloc (Nat.le_refl _) _)
  · rw [List.mem_singleton] at hy; subst hy
    exact ha

set_option maxRecDepth 8000 in
theorem lw_row (w : World) (a : Nat) (v : Value) (bs : List UInt8) (ha : a < 2 ^ 64) (h : BS w v bs) (hne : ∃ p c, v = .slice p bs.length c) :
    Calls Try.prog 23 #[.int .u64 (a : Int), v] w fun e w' => ∃ v' x, e = .returned v' ∧ Below w.heap.size w w' ∧ PzsAt w' v' [x] ∧ x.m = ⟨a, 1, bs⟩ := by
  obtain ⟨p, c, rfl⟩ := hne
  have hp := PzsAt.one w 45 ⟨a, 1, p, c, bs⟩ h ha
  obtain ⟨n, hn⟩ : ∃ n, n = bs.length := ⟨_, rfl⟩
  rw [← hn]
  have hp : PzsAt (w.alloc (.cells #[.int .u64 (a : Int), .int .i64 1, .slice p n c] 45)) (.slice (some ⟨w.heap.size, 0, none⟩) 1 1) [⟨a, 1, p, c, bs⟩] := by rw [hn]; exact hp
  have H := hid hp
  clear h ha hn hp
  go_enter Try.func23, Try.ntmps23
  go_wp2_with fail
  refine bodyPost_ret (v := .slice (some ⟨w.heap.size, 0, none⟩) 1 1) (by simp [results, Try.results23, go_sem]) rfl ?_
  exact ⟨_, _, rfl, (Below.refl _ _).alloc (Nat.le_refl _) _, H.out, rfl⟩
end Go.Proofs.Ythlnjfnjmjdohaa
