/- patch's closure, where the last patch goes on. -/
import Derived.Test.YtjfkgdfmkofbmaaGreatDoorZBpN
import Derived.Test.YtjfkgdfmkofbmaaGreatDoorZRnd
namespace Go.Proofs.YtjfkgdfmkofbmaaGreatDoor
set_option linter.unusedSimpArgs false
set_option linter.unusedVariables false
open Go.RowKit

set_option maxHeartbeats 4000000 in
theorem bd_pyes (w : World) (M : Nat → Prop) (hlt : ∀ k, M k → k < w.heap.size) (g cap : Nat) (init : List PaV) (x : PaV) (h : OwnPa M w (.slice (some ⟨g, 0, none⟩) (init ++ [x]).length cap) (init ++ [x]))
    (b1 b2 b3 at_ : Nat) (on nn : UInt8) (hB : BoxD w b1 b2 b3 at_ on nn) (m2 : ¬ M b2) (m3 : ¬ M b3) (hat : x.at_ + x.old.length = at_) (hmax : at_ + 1 ≤ MAXA) :
    Calls Tryz.prog 48 #[.pointer (some ⟨g, init.length * 3, none⟩), .pointer (some ⟨b1, 0, none⟩), .pointer (some ⟨b2, 0, none⟩), .pointer (some ⟨b3, 0, none⟩)] w
      fun e w' => e = .returned (.bool true) ∧ ∃ x' : PaV, x'.m = ⟨x.at_, x.old ++ [on], x.new ++ [nn]⟩ ∧ OwnPa (Mn M w w') w' (.slice (some ⟨g, 0, none⟩) (init ++ [x]).length cap) (init ++ [x']) ∧ Its M (Mn M w w') w w' := by
  obtain ⟨i, R⟩ := u8rowB
  have hxm : x ∈ init ++ [x] := by simp
  have mg : M g := h.mv g rfl
  have hgx : ¬ x.blk g := fun e => (h.mx x hxm g e).2 rfl
  have h2x : ¬ x.blk b2 := fun e => m2 (h.mx x hxm _ e).1
  have h3x : ¬ x.blk b3 := fun e => m3 (h.mx x hxm _ e).1
  obtain ⟨ha, cur, hcur⟩ := h.atD
  have hnn := (h.ok x hxm).2.1
  have hp0 : Pn w w x x.s1 x.old x.s2 x.new := ⟨rfl, rfl, rfl, Nat.le_refl _, fun _ _ _ => rfl, h.e1 x hxm, h.e2 x hxm, fun _ hk => .inl hk, fun _ hk => .inl hk, fun k hk => h.self x hxm k hk⟩
  have hfz : ∀ W : World, (∀ k, k < w.heap.size → ¬ x.blk k → W.heap[k]? = w.heap[k]?) → W.frozen? ⟨g, init.length * 3 + 1, none⟩ = false ∧ W.frozen? ⟨g, init.length * 3 + 2, none⟩ = false := fun W hk => by
    have := (hk g (hlt g mg) hgx).trans hcur
    exact ⟨frozen_of_row W g _ _ _ this, frozen_of_row W g _ _ _ this⟩
  have HK := hid (And.intro hlt (And.intro h (And.intro R (And.intro hfz (And.intro hnn (And.intro hat hmax))))))
  have hce : ∀ {W : World} {v1 v2 : Value} {l1 l2 : List UInt8}, Pn w W x v1 l1 v2 l2 → W.cell? ⟨g, init.length * 3 + 1, none⟩ = some x.s1 ∧ W.cell? ⟨g, init.length * 3 + 2, none⟩ = some x.s2 ∧ W.cell? ⟨b2, 0, none⟩ = some (.int .u8 (on.toNat : Int)) ∧ W.cell? ⟨b3, 0, none⟩ = some (.int .u8 (nn.toNat : Int)) := fun hp => hp.cells ha hB hgx h2x h3x
  obtain ⟨n, hn⟩ : ∃ n, n = x.old.length := ⟨_, rfl⟩
  obtain ⟨E, hE⟩ : ∃ E, E = x.at_ + n := ⟨_, rfl⟩
  have y0 : w.cell? ⟨g, init.length * 3, none⟩ = some (.int .u64 (x.at_ : Int)) := ha.c0
  have y1 : w.cell? ⟨g, init.length * 3 + 1, none⟩ = some (.slice x.p1 n x.c1) := by rw [hn]; exact ha.c1
  have y2 := hB.cells.1
  have e1 : IntKind.u64.wrap (n : Int) = (n : Int) := IntWalk.u64_in _ (by unfold MAXA at hmax; omega)
  have e2 : IntKind.u64.wrap ((x.at_ : Int) + (n : Int)) = (E : Int) := (IntWalk.u64_in _ (by unfold MAXA at hmax; omega)).trans (by omega)
  have d1 : ((E : Int) != (at_ : Int)) = false := by rw [hE, hn, hat]; simp
  have HP := hid hp0
  have HC := hid (fun (W : World) (v1 v2 : Value) (l1 l2 : List UInt8) (hp : Pn w W x v1 l1 v2 l2) => hce hp)
  have HN := hid hn
  clear hlt h R hfz hat hmax hB hxm mg hgx h2x h3x ha hcur hnn hp0 hE m2 m3 hn hce
  go_enter Tryz.func48, Tryz.ntmps48
  go_wp2_with fail
  go_quiet (fail)
  go_wp2_with fail
  generalize hW : World.drewN w _ = W5
  have hp5 : Pn w W5 x x.s1 x.old x.s2 x.new := by rw [← hW]; exact HP.out.below (below_drewNP (Below.refl _ _) _)
  have hs1 : ∀ k, W5.heap.size ≤ k → x.s1.ownBlock ≠ some k := fun k hk e => by have := hp5.o1.lt k e; omega
  have hp := hp5.below (below_drewP W5)
  have HS := hid hs1
  clear hW hp5 hs1 y0 y1 y2
  obtain ⟨y1, y2, y3, y4⟩ := HC.out _ _ _ _ _ hp
  refine regionG (fun W => W.cell? ⟨g, init.length * 3 + 1, none⟩ = some x.s1 ∧ W.cell? ⟨g, init.length * 3 + 2, none⟩ = some x.s2 ∧ W.cell? ⟨b2, 0, none⟩ = some (.int .u8 (on.toNat : Int)) ∧ W.cell? ⟨b3, 0, none⟩ = some (.int .u8 (nn.toNat : Int))) [18, 21] (by kernel_rfl) ?_
  have hS := HC.out _ _ _ _ _ hp
  clear y1 y2 y3 y4
  refine takeW (i := 0) rfl (by kernel_rfl) (by kernel_rfl) (by kernel_rfl) (by kernel_rfl) (fun _ _ _ h => h) (.inr hS) (.inl ⟨by rfl, by intro _ _; go_simp; with_reducible rfl⟩) ?_
  try simp only [Act.put, List.setIfInBounds_toArray, List.set_cons_zero, List.set_cons_succ]
  refine takeW (i := 1) rfl (by kernel_rfl) (by kernel_rfl) (by kernel_rfl) (by kernel_rfl) (fun _ _ _ h => h) (.inr hS) (.inl ⟨by rfl, by intro _ _; go_simp; with_reducible rfl⟩) ?_
  try simp only [Act.put, List.setIfInBounds_toArray, List.set_cons_zero, List.set_cons_succ]
  refine takeW (i := 2) rfl (by kernel_rfl) (by kernel_rfl) (by kernel_rfl) (by kernel_rfl) (fun _ _ _ h => h) (.inr hS) (.inl ⟨by rfl, by intro _ _; go_simp; with_reducible rfl⟩) ?_
  try simp only [Act.put, List.setIfInBounds_toArray, List.set_cons_zero, List.set_cons_succ]
  refine takeW (i := 3) rfl (by kernel_rfl) (by kernel_rfl) (by kernel_rfl) (by kernel_rfl) (fun _ _ _ h => h) (.inr hS) (.inl ⟨by rfl, by intro _ _; go_simp; with_reducible rfl⟩) ?_
  try simp only [Act.put, List.setIfInBounds_toArray, List.set_cons_zero, List.set_cons_succ]
  refine takeW (i := 4) rfl (by kernel_rfl) (by kernel_rfl) (by kernel_rfl) (by kernel_rfl) (fun _ _ _ h => h) (.inr hS) (.inl ⟨by rfl, by intro _ _; go_simp; with_reducible rfl⟩) ?_
  try simp only [Act.put, List.setIfInBounds_toArray, List.set_cons_zero, List.set_cons_succ]
  refine takeL (i := 5) rfl (by kernel_rfl) (by kernel_rfl) (by kernel_rfl) (by kernel_rfl) (by kernel_rfl) (by kernel_rfl) (by kernel_rfl) (fun _ _ _ h => h) hS (.inl ⟨by rfl, by intro _ hSw; (try dsimp only at hSw); go_simp; with_reducible rfl⟩) ?_
  try simp only [Act.put, List.setIfInBounds_toArray, List.set_cons_zero, List.set_cons_succ]
  refine takeL (i := 6) rfl (by kernel_rfl) (by kernel_rfl) (by kernel_rfl) (by kernel_rfl) (by kernel_rfl) (by kernel_rfl) (by kernel_rfl) (fun _ _ _ h => h) hS (.inl ⟨by rfl, by intro _ hSw; (try dsimp only at hSw); go_simp; with_reducible rfl⟩) ?_
  try simp only [Act.put, List.setIfInBounds_toArray, List.set_cons_zero, List.set_cons_succ]
  refine takeW (i := 9) rfl (by kernel_rfl) (by kernel_rfl) (by kernel_rfl) (by kernel_rfl) (fun _ _ _ h => h) (.inr hS) (.inl ⟨by rfl, by intro _ _; go_simp; with_reducible rfl⟩) ?_
  try simp only [Act.put, List.setIfInBounds_toArray, List.set_cons_zero, List.set_cons_succ]
  refine takeW (i := 10) rfl (by kernel_rfl) (by kernel_rfl) (by kernel_rfl) (by kernel_rfl) (fun _ _ _ h => h) (.inr hS) (.inl ⟨by rfl, by intro _ _; go_simp; with_reducible rfl⟩) ?_
  try simp only [Act.put, List.setIfInBounds_toArray, List.set_cons_zero, List.set_cons_succ]
  refine takeW (i := 11) rfl (by kernel_rfl) (by kernel_rfl) (by kernel_rfl) (by kernel_rfl) (fun _ _ _ h => h) (.inr hS) (.inl ⟨by rfl, by intro _ _; go_simp; with_reducible rfl⟩) ?_
  try simp only [Act.put, List.setIfInBounds_toArray, List.set_cons_zero, List.set_cons_succ]
  refine takeL (i := 12) rfl (by kernel_rfl) (by kernel_rfl) (by kernel_rfl) (by kernel_rfl) (by kernel_rfl) (by kernel_rfl) (by kernel_rfl) (fun _ _ _ h => h) hS (.inl ⟨by rfl, by intro _ hSw; (try dsimp only at hSw); go_simp; with_reducible rfl⟩) ?_
  try simp only [Act.put, List.setIfInBounds_toArray, List.set_cons_zero, List.set_cons_succ]
  refine takeL (i := 13) rfl (by kernel_rfl) (by kernel_rfl) (by kernel_rfl) (by kernel_rfl) (by kernel_rfl) (by kernel_rfl) (by kernel_rfl) (fun _ _ _ h => h) hS (.inl ⟨by rfl, by intro _ hSw; (try dsimp only at hSw); go_simp; with_reducible rfl⟩) ?_
  try simp only [Act.put, List.setIfInBounds_toArray, List.set_cons_zero, List.set_cons_succ]
  have HG : Hid True := trivial
  refine readyG (rs := [7, 14]) (by kernel_rfl) (by simp) (consG rfl (fun K hK => ?_) (consG rfl (fun K hK => ?_) nilG))
  · go_simp
    refine hK.out _ _ (.inr (HC.out _ _ _ _ _ (hp.alloc _))) ?_
    clear hK K
    replace hp := hp.alloc (Obj.cells #[.int .u8 (on.toNat : Int)] 5)
    replace hS := HC.out _ _ _ _ _ hp
    refine readyG (rs := [8, 14]) (by kernel_rfl) (by simp) (consG rfl (fun K hK => ?_) (consG rfl (fun K hK => ?_) nilG))
    · refine step_bytes HK.out.2.2.1 _ rfl _ _ _ rfl 0 x.s1 x.old rfl hp.o1 _ [on] rfl (src_one (by first | exact cl0 _ _ _ | exact cl1 _ _ _ _ | exact cl2 _ _ _ _ | exact HG.out _ _ (cl1 _ _ _ _) (HS.out _ (Nat.le_refl _)) | exact HG.out _ _ (cl2 _ _ _ _) (HS.out _ (Nat.le_succ _)))) (by have := HK.out.2.2.2.2.1; have := HK.out.2.2.2.2.2.2; have := HK.out.2.2.2.2.2.1; unfold MAXA at *; simp; omega) (Nat.zero_le _) ?_
      intro v1 W1 ho1 hg1
      have HG := hid (fun (k : Nat) (u : Value) hu hk => hg1.cell (k := k) (o := 0) (u := u) hu hk)
      replace hp := hp.app1 hg1 ho1
      obtain ⟨p1, c1, hv1⟩ := ho1.form
      obtain ⟨n1, hn1⟩ : ∃ n, n = (x.old ++ [on]).length := ⟨_, rfl⟩
      rw [← hn1] at hv1
      subst hv1
      replace hS := HC.out _ _ _ _ _ hp
      refine hK.out _ _ (.inr hS) ?_
      clear hK K ho1 hg1
      have HN1 := hid hn1
      clear hn1
      try simp only [Act.put, List.setIfInBounds_toArray, List.set_cons_zero, List.set_cons_succ]
      refine readyG (rs := [14]) (by kernel_rfl) (by simp) (consG rfl (fun K hK => ?_) nilG)
      · go_simp
        refine hK.out _ _ (.inr (HC.out _ _ _ _ _ (hp.alloc _))) ?_
        clear hK K
        replace hp := hp.alloc (Obj.cells #[.int .u8 (nn.toNat : Int)] 5)
        replace hS := HC.out _ _ _ _ _ hp
        refine readyG (rs := [15]) (by kernel_rfl) (by simp) (consG rfl (fun K hK => ?_) nilG)
        · refine step_bytes HK.out.2.2.1 _ rfl _ _ _ rfl 0 x.s2 x.new rfl hp.o2 _ [nn] rfl (src_one (by first | exact cl0 _ _ _ | exact cl1 _ _ _ _ | exact cl2 _ _ _ _ | exact HG.out _ _ (cl1 _ _ _ _) (HS.out _ (Nat.le_refl _)) | exact HG.out _ _ (cl2 _ _ _ _) (HS.out _ (Nat.le_succ _)))) (by have := HK.out.2.2.2.2.1; have := HK.out.2.2.2.2.2.2; have := HK.out.2.2.2.2.2.1; unfold MAXA at *; simp; omega) (Nat.zero_le _) ?_
          intro v2 W2 ho2 hg2
          replace hp := hp.app2 hg2 ho2
          obtain ⟨p2, c2, hv2⟩ := ho2.form
          obtain ⟨n2, hn2⟩ : ∃ n, n = (x.new ++ [nn]).length := ⟨_, rfl⟩
          rw [← hn2] at hv2
          subst hv2
          replace hS := HC.out _ _ _ _ _ hp
          refine hK.out _ _ (.inr hS) ?_
          clear hK K ho2 hg2
          have HN2 := hid hn2
          clear hn2
          try simp only [Act.put, List.setIfInBounds_toArray, List.set_cons_zero, List.set_cons_succ]
          refine takeW (i := 16) rfl (by kernel_rfl) (by kernel_rfl) (by kernel_rfl) (by kernel_rfl) (fun _ _ _ h => h) (.inr hS) (.inl ⟨by rfl, by intro _ _; go_simp; with_reducible rfl⟩) ?_
          try simp only [Act.put, List.setIfInBounds_toArray, List.set_cons_zero, List.set_cons_succ]
          refine takeW (i := 17) rfl (by kernel_rfl) (by kernel_rfl) (by kernel_rfl) (by kernel_rfl) (fun _ _ _ h => h) (.inr hS) (.inl ⟨by rfl, by intro _ _; go_simp; with_reducible rfl⟩) ?_
          try simp only [Act.put, List.setIfInBounds_toArray, List.set_cons_zero, List.set_cons_succ]
          obtain ⟨f1, f2⟩ := HK.out.2.2.2.1 _ hp.keep
          obtain ⟨z1, z2, -, -⟩ := hS
          refine readyG (rs := [18]) (by kernel_rfl) (by simp) (consG rfl (fun K hK => ?_) nilG)
          go_simp
          refine hK.out _ _ (.inl (by kernel_rfl)) ?_
          clear hK K
          refine takeW (i := 19) rfl (by kernel_rfl) (by kernel_rfl) (by kernel_rfl) (by kernel_rfl) (fun _ _ _ h => h) (.inl (by kernel_rfl)) (.inl ⟨by rfl, by intro _ _; go_simp; with_reducible rfl⟩) ?_
          try simp only [Act.put, List.setIfInBounds_toArray, List.set_cons_zero, List.set_cons_succ]
          refine takeW (i := 20) rfl (by kernel_rfl) (by kernel_rfl) (by kernel_rfl) (by kernel_rfl) (fun _ _ _ h => h) (.inl (by kernel_rfl)) (.inl ⟨by rfl, by intro _ _; go_simp; with_reducible rfl⟩) ?_
          try simp only [Act.put, List.setIfInBounds_toArray, List.set_cons_zero, List.set_cons_succ]
          refine readyG (rs := [21]) (by kernel_rfl) (by simp) (consG rfl (fun K hK => ?_) nilG)
          go_simp
          refine hK.out _ _ (.inl (by kernel_rfl)) ?_
          clear hK K z1 z2 f1 f2
          refine doneG (by kernel_rfl) ?_ _
          have hf := pa_yes HK.out.1 HK.out.2.1 hp HN1.out HN2.out (by have := HK.out.2.2.2.2.2.2; have := HK.out.2.2.2.2.2.1; rw [List.length_append]; simp; omega)
          have HF := hid hf
          clear hf hp
          go_wp2_with fail
          go_ret
          exact ⟨rfl, HF.out⟩
    · go_simp
      refine hK.out _ _ (.inr (HC.out _ _ _ _ _ (hp.alloc _))) ?_
      clear hK K
      replace hp := hp.alloc (Obj.cells #[.int .u8 (nn.toNat : Int)] 5)
      replace hS := HC.out _ _ _ _ _ hp
      refine readyG (rs := [8]) (by kernel_rfl) (by simp) (consG rfl (fun K hK => ?_) nilG)
      · refine step_bytes HK.out.2.2.1 _ rfl _ _ _ rfl 0 x.s1 x.old rfl hp.o1 _ [on] rfl (src_one (by first | exact cl0 _ _ _ | exact cl1 _ _ _ _ | exact cl2 _ _ _ _ | exact HG.out _ _ (cl1 _ _ _ _) (HS.out _ (Nat.le_refl _)) | exact HG.out _ _ (cl2 _ _ _ _) (HS.out _ (Nat.le_succ _)))) (by have := HK.out.2.2.2.2.1; have := HK.out.2.2.2.2.2.2; have := HK.out.2.2.2.2.2.1; unfold MAXA at *; simp; omega) (Nat.zero_le _) ?_
        intro v1 W1 ho1 hg1
        have HG := hid (fun (k : Nat) (u : Value) hu hk => hg1.cell (k := k) (o := 0) (u := u) hu hk)
        replace hp := hp.app1 hg1 ho1
        obtain ⟨p1, c1, hv1⟩ := ho1.form
        obtain ⟨n1, hn1⟩ : ∃ n, n = (x.old ++ [on]).length := ⟨_, rfl⟩
        rw [← hn1] at hv1
        subst hv1
        replace hS := HC.out _ _ _ _ _ hp
        refine hK.out _ _ (.inr hS) ?_
        clear hK K ho1 hg1
        have HN1 := hid hn1
        clear hn1
        try simp only [Act.put, List.setIfInBounds_toArray, List.set_cons_zero, List.set_cons_succ]
        refine readyG (rs := [15]) (by kernel_rfl) (by simp) (consG rfl (fun K hK => ?_) nilG)
        · refine step_bytes HK.out.2.2.1 _ rfl _ _ _ rfl 0 x.s2 x.new rfl hp.o2 _ [nn] rfl (src_one (by first | exact cl0 _ _ _ | exact cl1 _ _ _ _ | exact cl2 _ _ _ _ | exact HG.out _ _ (cl1 _ _ _ _) (HS.out _ (Nat.le_refl _)) | exact HG.out _ _ (cl2 _ _ _ _) (HS.out _ (Nat.le_succ _)))) (by have := HK.out.2.2.2.2.1; have := HK.out.2.2.2.2.2.2; have := HK.out.2.2.2.2.2.1; unfold MAXA at *; simp; omega) (Nat.zero_le _) ?_
          intro v2 W2 ho2 hg2
          replace hp := hp.app2 hg2 ho2
          obtain ⟨p2, c2, hv2⟩ := ho2.form
          obtain ⟨n2, hn2⟩ : ∃ n, n = (x.new ++ [nn]).length := ⟨_, rfl⟩
          rw [← hn2] at hv2
          subst hv2
          replace hS := HC.out _ _ _ _ _ hp
          refine hK.out _ _ (.inr hS) ?_
          clear hK K ho2 hg2
          have HN2 := hid hn2
          clear hn2
          try simp only [Act.put, List.setIfInBounds_toArray, List.set_cons_zero, List.set_cons_succ]
          refine takeW (i := 16) rfl (by kernel_rfl) (by kernel_rfl) (by kernel_rfl) (by kernel_rfl) (fun _ _ _ h => h) (.inr hS) (.inl ⟨by rfl, by intro _ _; go_simp; with_reducible rfl⟩) ?_
          try simp only [Act.put, List.setIfInBounds_toArray, List.set_cons_zero, List.set_cons_succ]
          refine takeW (i := 17) rfl (by kernel_rfl) (by kernel_rfl) (by kernel_rfl) (by kernel_rfl) (fun _ _ _ h => h) (.inr hS) (.inl ⟨by rfl, by intro _ _; go_simp; with_reducible rfl⟩) ?_
          try simp only [Act.put, List.setIfInBounds_toArray, List.set_cons_zero, List.set_cons_succ]
          obtain ⟨f1, f2⟩ := HK.out.2.2.2.1 _ hp.keep
          obtain ⟨z1, z2, -, -⟩ := hS
          refine readyG (rs := [18]) (by kernel_rfl) (by simp) (consG rfl (fun K hK => ?_) nilG)
          go_simp
          refine hK.out _ _ (.inl (by kernel_rfl)) ?_
          clear hK K
          refine takeW (i := 19) rfl (by kernel_rfl) (by kernel_rfl) (by kernel_rfl) (by kernel_rfl) (fun _ _ _ h => h) (.inl (by kernel_rfl)) (.inl ⟨by rfl, by intro _ _; go_simp; with_reducible rfl⟩) ?_
          try simp only [Act.put, List.setIfInBounds_toArray, List.set_cons_zero, List.set_cons_succ]
          refine takeW (i := 20) rfl (by kernel_rfl) (by kernel_rfl) (by kernel_rfl) (by kernel_rfl) (fun _ _ _ h => h) (.inl (by kernel_rfl)) (.inl ⟨by rfl, by intro _ _; go_simp; with_reducible rfl⟩) ?_
          try simp only [Act.put, List.setIfInBounds_toArray, List.set_cons_zero, List.set_cons_succ]
          refine readyG (rs := [21]) (by kernel_rfl) (by simp) (consG rfl (fun K hK => ?_) nilG)
          go_simp
          refine hK.out _ _ (.inl (by kernel_rfl)) ?_
          clear hK K z1 z2 f1 f2
          refine doneG (by kernel_rfl) ?_ _
          have hf := pa_yes HK.out.1 HK.out.2.1 hp HN1.out HN2.out (by have := HK.out.2.2.2.2.2.2; have := HK.out.2.2.2.2.2.1; rw [List.length_append]; simp; omega)
          have HF := hid hf
          clear hf hp
          go_wp2_with fail
          go_ret
          exact ⟨rfl, HF.out⟩
  · go_simp
    refine hK.out _ _ (.inr (HC.out _ _ _ _ _ (hp.alloc _))) ?_
    clear hK K
    replace hp := hp.alloc (Obj.cells #[.int .u8 (nn.toNat : Int)] 5)
    replace hS := HC.out _ _ _ _ _ hp
    refine readyG (rs := [7]) (by kernel_rfl) (by simp) (consG rfl (fun K hK => ?_) nilG)
    · go_simp
      refine hK.out _ _ (.inr (HC.out _ _ _ _ _ (hp.alloc _))) ?_
      clear hK K
      replace hp := hp.alloc (Obj.cells #[.int .u8 (on.toNat : Int)] 5)
      replace hS := HC.out _ _ _ _ _ hp
      refine readyG (rs := [8]) (by kernel_rfl) (by simp) (consG rfl (fun K hK => ?_) nilG)
      · refine step_bytes HK.out.2.2.1 _ rfl _ _ _ rfl 0 x.s1 x.old rfl hp.o1 _ [on] rfl (src_one (by first | exact cl0 _ _ _ | exact cl1 _ _ _ _ | exact cl2 _ _ _ _ | exact HG.out _ _ (cl1 _ _ _ _) (HS.out _ (Nat.le_refl _)) | exact HG.out _ _ (cl2 _ _ _ _) (HS.out _ (Nat.le_succ _)))) (by have := HK.out.2.2.2.2.1; have := HK.out.2.2.2.2.2.2; have := HK.out.2.2.2.2.2.1; unfold MAXA at *; simp; omega) (Nat.zero_le _) ?_
        intro v1 W1 ho1 hg1
        have HG := hid (fun (k : Nat) (u : Value) hu hk => hg1.cell (k := k) (o := 0) (u := u) hu hk)
        replace hp := hp.app1 hg1 ho1
        obtain ⟨p1, c1, hv1⟩ := ho1.form
        obtain ⟨n1, hn1⟩ : ∃ n, n = (x.old ++ [on]).length := ⟨_, rfl⟩
        rw [← hn1] at hv1
        subst hv1
        replace hS := HC.out _ _ _ _ _ hp
        refine hK.out _ _ (.inr hS) ?_
        clear hK K ho1 hg1
        have HN1 := hid hn1
        clear hn1
        try simp only [Act.put, List.setIfInBounds_toArray, List.set_cons_zero, List.set_cons_succ]
        refine readyG (rs := [15]) (by kernel_rfl) (by simp) (consG rfl (fun K hK => ?_) nilG)
        · refine step_bytes HK.out.2.2.1 _ rfl _ _ _ rfl 0 x.s2 x.new rfl hp.o2 _ [nn] rfl (src_one (by first | exact cl0 _ _ _ | exact cl1 _ _ _ _ | exact cl2 _ _ _ _ | exact HG.out _ _ (cl1 _ _ _ _) (HS.out _ (Nat.le_refl _)) | exact HG.out _ _ (cl2 _ _ _ _) (HS.out _ (Nat.le_succ _)))) (by have := HK.out.2.2.2.2.1; have := HK.out.2.2.2.2.2.2; have := HK.out.2.2.2.2.2.1; unfold MAXA at *; simp; omega) (Nat.zero_le _) ?_
          intro v2 W2 ho2 hg2
          replace hp := hp.app2 hg2 ho2
          obtain ⟨p2, c2, hv2⟩ := ho2.form
          obtain ⟨n2, hn2⟩ : ∃ n, n = (x.new ++ [nn]).length := ⟨_, rfl⟩
          rw [← hn2] at hv2
          subst hv2
          replace hS := HC.out _ _ _ _ _ hp
          refine hK.out _ _ (.inr hS) ?_
          clear hK K ho2 hg2
          have HN2 := hid hn2
          clear hn2
          try simp only [Act.put, List.setIfInBounds_toArray, List.set_cons_zero, List.set_cons_succ]
          refine takeW (i := 16) rfl (by kernel_rfl) (by kernel_rfl) (by kernel_rfl) (by kernel_rfl) (fun _ _ _ h => h) (.inr hS) (.inl ⟨by rfl, by intro _ _; go_simp; with_reducible rfl⟩) ?_
          try simp only [Act.put, List.setIfInBounds_toArray, List.set_cons_zero, List.set_cons_succ]
          refine takeW (i := 17) rfl (by kernel_rfl) (by kernel_rfl) (by kernel_rfl) (by kernel_rfl) (fun _ _ _ h => h) (.inr hS) (.inl ⟨by rfl, by intro _ _; go_simp; with_reducible rfl⟩) ?_
          try simp only [Act.put, List.setIfInBounds_toArray, List.set_cons_zero, List.set_cons_succ]
          obtain ⟨f1, f2⟩ := HK.out.2.2.2.1 _ hp.keep
          obtain ⟨z1, z2, -, -⟩ := hS
          refine readyG (rs := [18]) (by kernel_rfl) (by simp) (consG rfl (fun K hK => ?_) nilG)
          go_simp
          refine hK.out _ _ (.inl (by kernel_rfl)) ?_
          clear hK K
          refine takeW (i := 19) rfl (by kernel_rfl) (by kernel_rfl) (by kernel_rfl) (by kernel_rfl) (fun _ _ _ h => h) (.inl (by kernel_rfl)) (.inl ⟨by rfl, by intro _ _; go_simp; with_reducible rfl⟩) ?_
          try simp only [Act.put, List.setIfInBounds_toArray, List.set_cons_zero, List.set_cons_succ]
          refine takeW (i := 20) rfl (by kernel_rfl) (by kernel_rfl) (by kernel_rfl) (by kernel_rfl) (fun _ _ _ h => h) (.inl (by kernel_rfl)) (.inl ⟨by rfl, by intro _ _; go_simp; with_reducible rfl⟩) ?_
          try simp only [Act.put, List.setIfInBounds_toArray, List.set_cons_zero, List.set_cons_succ]
          refine readyG (rs := [21]) (by kernel_rfl) (by simp) (consG rfl (fun K hK => ?_) nilG)
          go_simp
          refine hK.out _ _ (.inl (by kernel_rfl)) ?_
          clear hK K z1 z2 f1 f2
          refine doneG (by kernel_rfl) ?_ _
          have hf := pa_yes HK.out.1 HK.out.2.1 hp HN1.out HN2.out (by have := HK.out.2.2.2.2.2.2; have := HK.out.2.2.2.2.2.1; rw [List.length_append]; simp; omega)
          have HF := hid hf
          clear hf hp
          go_wp2_with fail
          go_ret
          exact ⟨rfl, HF.out⟩
end Go.Proofs.YtjfkgdfmkofbmaaGreatDoor

namespace Go.Proofs.YtjfkgdfmkofbmaaGreatDoor
set_option linter.unusedSimpArgs false
set_option linter.unusedVariables false
open Go.RowKit

/-- A patch of one byte that lies apart. -/
structure NewPa (M : Nat → Prop) (w : World) (v : Value) (L : List PaV) (y : PaV) (on nn : UInt8) : Prop where
  eo : y.old = [on]
  en : y.new = [nn]
  o1 : OB w 0 5 y.s1 y.old
  o2 : OB w 0 5 y.s2 y.new
  m : ∀ k, y.blk k → M k ∧ v.ownBlock ≠ some k ∧ ∀ x ∈ L, ¬ x.blk k
  self : ∀ k, y.s1.ownBlock = some k → y.s2.ownBlock ≠ some k
  ok : y.at_ + 1 ≤ MAXA

/-- Behind an append of a patch. -/
theorem pa_append {M : Nat → Prop} {w w1 w' : World} {v v' : Value} {L : List PaV} {y : PaV} {on nn : UInt8} (hlt : ∀ k, M k → k < w.heap.size) (h : OwnPa M w v L) (hy : NewPa M w v L y on nn) (hb : Below w.heap.size w w1) (hg : Grew w1 w' v v')
    (ho : w'.ownsRow 0 94 3 v' (L.length + 1) (L.flatMap PaV.cells ++ y.cells)) (hno : pushD (L.map PaV.m) ⟨y.at_, on, nn⟩ = L.map PaV.m ++ [y.m]) : PatchEnd M w L y.at_ on nn (.returned v') w' := by
  have hs12 := hb.size
  have keep : ∀ k, M k → v.ownBlock ≠ some k → w'.heap[k]? = w.heap[k]? := fun k hk hne => (hg.block (Nat.lt_of_lt_of_le (hlt k hk) hs12) hne).trans (hb.block k (hlt k hk))
  have hnew : ∀ k, v'.ownBlock = some k → v.ownBlock = some k ∨ (w.heap.size ≤ k ∧ k < w'.heap.size) := fun k hk => by
    rcases hg.lies with h1 | ⟨j, h1, h2⟩
    · exact .inl (h1 ▸ hk)
    · refine .inr ?_
      have hl := (World.ownsRow.lt ho k hk).2
      rw [h1] at hk
      cases hk
      exact ⟨Nat.le_trans hs12 h2, hl⟩
  refine ⟨v', L ++ [y], rfl, ?_, by rw [hno, List.map_append]; rfl, its_mn ((its_below M hb).trans (its_grew hg (fun k hk => .inl (h.mv k hk))))⟩
  refine h.snoc (fun k hk => .inl hk) keep ho (fun k hk => ?_) (fun k hk => ?_) (owns_of_block hy.o1 (fun k hk => keep k (hy.m k (.inl hk)).1 (hy.m k (.inl hk)).2.1)) (owns_of_block hy.o2 (fun k hk => keep k (hy.m k (.inr hk)).1 (hy.m k (.inr hk)).2.1)) hy.self ⟨by rw [hy.eo]; simp, by rw [hy.eo, hy.en]; rfl, by rw [hy.eo]; exact hy.ok⟩
  · rcases hnew k hk with e | e
    · exact ⟨.inl (h.mv k e), .inl e⟩
    · exact ⟨.inr e, .inr (fun hm => by have := hlt k hm; omega)⟩
  · have hm := hy.m k hk
    refine ⟨.inl hm.1, hm.2.2, fun e => ?_⟩
    rcases hnew k e with e | e
    · exact hm.2.1 e
    · have := hlt k hm.1; omega
theorem last_casesD (L : List PaV) : L = [] ∨ ∃ l p, L = l ++ [p] := by
  rcases List.eq_nil_or_concat L with h | ⟨l, p, h⟩
  · exact .inl h
  · exact .inr ⟨l, p, by rw [h]; simp⟩
theorem pushD_nil (d : Dz) : pushD [] d = [⟨d.at_, [d.old], [d.new]⟩] := rfl
theorem y_m {M : Nat → Prop} {w : World} {v : Value} {L : List PaV} {y : PaV} {on nn : UInt8} (hy : NewPa M w v L y on nn) : y.m = ⟨y.at_, [on], [nn]⟩ := by unfold PaV.m; rw [hy.eo, hy.en]

set_option maxHeartbeats 2000000 in
theorem bd_pgrown_nil (w : World) (M : Nat → Prop) (hlt : ∀ k, M k → k < w.heap.size) (v : Value) (h : OwnPa M w v []) (y : PaV) (on nn : UInt8) (hy : NewPa M w v [] y on nn) (f : Value) :
    Calls Tryz.prog 47 #[v, .agg #[.int .u64 (y.at_ : Int), .slice y.p1 1 y.c1, .slice y.p2 1 y.c2], f] w (PatchEnd M w [] y.at_ on nn) := by
  obtain ⟨ip, hip, hpz, hps, hpb⟩ := info_parts infoG1
  obtain ⟨p, c, rfl⟩ : ∃ p c, v = .slice p 0 c := by obtain ⟨p, c, e⟩ := ownsRow_form h.own; exact ⟨p, c, e⟩
  obtain ⟨u1, hu1⟩ : ∃ u, u = Value.slice y.p1 1 y.c1 := ⟨_, rfl⟩
  obtain ⟨u2, hu2⟩ : ∃ u, u = Value.slice y.p2 1 y.c2 := ⟨_, rfl⟩
  have ho2 : ∀ u ∈ [Value.int .u64 (y.at_ : Int), u1, u2], u.oneCell' = true := fun u hu => by
    simp only [List.mem_cons, List.not_mem_nil, or_false] at hu
    rcases hu with rfl | rfl | rfl
    · rfl
    · rw [hu1]; rfl
    · rw [hu2]; rfl
  have hcs : y.cells = [.int .u64 (y.at_ : Int), u1, u2] := by rw [hu1, hu2]; unfold PaV.cells; show [_, Value.slice y.p1 y.old.length y.c1, Value.slice y.p2 y.new.length y.c2] = _; rw [hy.eo, hy.en]; rfl
  rw [← hu1, ← hu2]
  have hal : Below w.heap.size w (w.alloc (.cells #[.int .u64 (y.at_ : Int), u1, u2] 94)) := (Below.refl _ _).alloc (Nat.le_refl _) _
  have hrw : (w.alloc (.cells #[.int .u64 (y.at_ : Int), u1, u2] 94)).heap[w.heap.size]? = some (.cells #[.int .u64 (y.at_ : Int), u1, u2] 94 (0, 0)) := heap_alloc_new w _
  have x0 := cell_of_row _ _ 0 _ _ _ hrw
  have x1 := cell_of_row _ _ 1 _ _ _ hrw
  have x2 := cell_of_row _ _ 2 _ _ _ hrw
  have hown : (w.alloc (.cells #[.int .u64 (y.at_ : Int), u1, u2] 94)).ownsRow 0 94 3 (.slice p 0 c) 0 [] := owns_of_block h.own (fun k hk => hal.block k (h.lt.1 k hk))
  have HI := hid (And.intro hip (And.intro hpz (And.intro hps hpb)))
  have HK := hid (And.intro hlt (And.intro h (And.intro hy (And.intro hal (And.intro hown (And.intro ho2 hcs))))))
  clear hlt h hy hip hpz hps hpb hal hrw hown ho2 hcs hu1 hu2
  go_enter Tryz.func47, Tryz.ntmps47
  go_wp2_with (at_builtin; refine wpList_append_grew _ rfl _ _ _ _ rfl 0 94 ip _ 3 56 Tryz.underlying25 HI.out.1 HI.out.2.1 HI.out.2.2.1 HI.out.2.2.2 rfl (.slice p 0 c) 0 [] rfl (ownsRow_below HK.out.2.2.2.2.1 ((Below.refl _ _).alloc (Nat.le_refl _) _)) _ 1 [.int .u64 (y.at_ : Int), u1, u2] rfl (Src.laid _ Tryz.underlying25 [.int .u64 (y.at_ : Int), u1, u2] 1 rfl HK.out.2.2.2.2.2.1 (0, 0) (by simp)) (by decide) (by decide) (Nat.zero_le _) ?_)
  intro v' w' ho hg
  have hz : w.heap.size ≤ (w.alloc (.cells #[.int .u64 (y.at_ : Int), u1, u2] 94)).heap.size := by simp
  have hf := pa_append HK.out.1 HK.out.2.1 HK.out.2.2.1 HK.out.2.2.2.1 (Grew.under ((Below.refl _ _).alloc (Nat.le_refl _) _) hg) (by rw [HK.out.2.2.2.2.2.2]; exact ho) (by rw [y_m HK.out.2.2.1]; rfl)
  have HF := hid hf
  clear ho hg hf hz x0 x1 x2
  go_wp2_with fail
  go_ret
  exact HF.out

set_option maxHeartbeats 4000000 in
theorem bd_pgrown (w : World) (M : Nat → Prop) (hlt : ∀ k, M k → k < w.heap.size) (v : Value) (L : List PaV) (h : OwnPa M w v L) (hlen : L.length ≤ 100000) (y : PaV) (on nn : UInt8) (hy : NewPa M w v L y on nn)
    (b1 b2 b3 : Nat) (hB : BoxD w b1 b2 b3 y.at_ on nn) (m2 : ¬ M b2) (m3 : ¬ M b3) :
    Calls Tryz.prog 47 #[v, .agg #[.int .u64 (y.at_ : Int), .slice y.p1 1 y.c1, .slice y.p2 1 y.c2], .func (.func 48) #[] #[.pointer (some ⟨b1, 0, none⟩), .pointer (some ⟨b2, 0, none⟩), .pointer (some ⟨b3, 0, none⟩)]] w (PatchEnd M w L y.at_ on nn) := by
  rcases last_casesD L with rfl | ⟨init, x, rfl⟩
  · exact bd_pgrown_nil w M hlt v h y on nn hy _
  obtain ⟨ip, hip, hpz, hps, hpb⟩ := info_parts infoG1
  obtain ⟨g, cap, rfl⟩ : ∃ g cap, v = .slice (some ⟨g, 0, none⟩) (init ++ [x]).length cap := by
    obtain ⟨g, cap, cur, e, -⟩ := own3_rows paLen h.own (i := init.length) (x := x) (by simp)
    exact ⟨g, cap, e⟩
  obtain ⟨N, hN⟩ : ∃ N, N = (init ++ [x]).length := ⟨_, rfl⟩
  have hNi : N = init.length + 1 := by rw [hN, List.length_append]; rfl
  obtain ⟨u1, hu1⟩ : ∃ u, u = Value.slice y.p1 1 y.c1 := ⟨_, rfl⟩
  obtain ⟨u2, hu2⟩ : ∃ u, u = Value.slice y.p2 1 y.c2 := ⟨_, rfl⟩
  have ho2 : ∀ u ∈ [Value.int .u64 (y.at_ : Int), u1, u2], u.oneCell' = true := fun u hu => by
    simp only [List.mem_cons, List.not_mem_nil, or_false] at hu
    rcases hu with rfl | rfl | rfl
    · rfl
    · rw [hu1]; rfl
    · rw [hu2]; rfl
  have hcs : y.cells = [.int .u64 (y.at_ : Int), u1, u2] := by rw [hu1, hu2]; unfold PaV.cells; show [_, Value.slice y.p1 y.old.length y.c1, Value.slice y.p2 y.new.length y.c2] = _; rw [hy.eo, hy.en]; rfl
  rw [← hu1, ← hu2]
  obtain ⟨w1, hw1⟩ : ∃ w1, w1 = w.alloc (.cells #[.int .u64 (y.at_ : Int), u1, u2] 94) := ⟨_, rfl⟩
  have hal : Below w.heap.size w w1 := by rw [hw1]; exact (Below.refl _ _).alloc (Nat.le_refl _) _
  have hrw : w1.heap[w.heap.size]? = some (.cells #[.int .u64 (y.at_ : Int), u1, u2] 94 (0, 0)) := by rw [hw1]; exact heap_alloc_new w _
  have h1 : OwnPa M w1 (.slice (some ⟨g, 0, none⟩) (init ++ [x]).length cap) (init ++ [x]) := h.below hal
  have hlt1 : ∀ k, M k → k < w1.heap.size := fun k hk => Nat.lt_of_lt_of_le (hlt k hk) hal.size
  have hxm : x ∈ init ++ [x] := by simp
  have hxok := h.ok x hxm
  have ha3 : AtD w1 g (init.length * 3) x := h1.atD.1
  have hw1' : IntKind.i64.wrap ((N : Int) - 1) = (init.length : Int) := (IntWalk.i64_in _ (by rw [← hN] at hlen; omega)).trans (by omega)
  have hd : decide ((0 : Int) < (N : Int)) = true := decide_eq_true (by omega)
  have hbn : (0 : Int) ≤ (init.length : Int) := by omega
  have hbN : (init.length : Int) < (N : Int) := by omega
  rw [← hN] at h1 h ⊢
  have HI := hid (And.intro hip (And.intro hpz (And.intro hps hpb)))
  have HN := hid (And.intro hN hNi)
  have HL := hid hlen
  have Hw1 := hid hw1.symm
  clear hip hpz hps hpb hN hNi hlen hw1
  by_cases hj : x.at_ + x.old.length = y.at_
  · have hon := bd_pyes w1 M hlt1 g cap init x (by rw [← HN.out.1]; exact h1) b1 b2 b3 y.at_ on nn (hB.below hal) m2 m3 hj hy.ok
    have hput : pushD ((init ++ [x]).map PaV.m) ⟨y.at_, on, nn⟩ = init.map PaV.m ++ [⟨x.at_, x.old ++ [on], x.new ++ [nn]⟩] := by
      rw [List.map_append, show [x].map PaV.m = [x.m] from rfl, pushD_snoc, if_pos (show x.m.at_ + x.m.old.length = y.at_ from hj)]
      rfl
    have HO := hid (And.intro hon (And.intro hput hal))
    clear hlt h hy hB m2 m3 h1 hlt1 hxm hxok ha3 ho2 hcs hu1 hu2 hj hon hput hrw
    go_enter Tryz.func47, Tryz.ntmps47
    go_upto_region 2 with fail
    rw [Hw1.out]
    go_wp2_with fail
    refine HO.out.1.mono ?_
    rintro e w2 ⟨rfl, x', e1, ho, hi⟩
    have hf : PatchEnd M w (init ++ [x]) y.at_ on nn (.returned (.slice (some ⟨g, 0, none⟩) N cap)) w2 := by
      refine ⟨_, init ++ [x'], rfl, ?_, ?_, its_from HO.out.2.2 hi⟩
      · rw [HN.out.1]; exact ho.widen (fun k hk => mn_below HO.out.2.2.size hk)
      · rw [HO.out.2.1, List.map_append]
        show _ ++ [x'.m] = _
        rw [e1]
    have HF := hid hf
    clear ho hi hf
    go_wp2_with fail
    go_ret
    exact HF.out
  · have hon := bd_pno w1 g (init.length * 3) x b1 b2 b3 y.at_ on nn ha3 (hB.below hal) hxok.2.2 hj
    have hput : pushD ((init ++ [x]).map PaV.m) ⟨y.at_, on, nn⟩ = (init ++ [x]).map PaV.m ++ [y.m] := by
      rw [List.map_append, show [x].map PaV.m = [x.m] from rfl, pushD_snoc, if_neg (show ¬ (x.m.at_ + x.m.old.length = y.at_) from hj), y_m hy]
    have x0 := cell_of_row _ _ 0 _ _ _ hrw
    have x1 := cell_of_row _ _ 1 _ _ _ hrw
    have x2 := cell_of_row _ _ 2 _ _ _ hrw
    have HO := hid (And.intro hon (And.intro hput (And.intro hal (And.intro hlt (And.intro h (And.intro hy (And.intro ho2 (And.intro hcs hrw))))))))
    clear hlt h hy hB m2 m3 h1 hlt1 hxm hxok ha3 ho2 hcs hu1 hu2 hj hon hput
    go_enter Tryz.func47, Tryz.ntmps47
    go_upto_region 2 with fail
    rw [Hw1.out]
    go_wp2_with fail
    refine HO.out.1.mono ?_
    rintro e w2 ⟨rfl, hb2⟩
    have hbw : Below w.heap.size w w2 := HO.out.2.2.1.trans (hb2.mono HO.out.2.2.1.size)
    have hr2 := (hb2.block _ (Array.getElem?_eq_some_iff.1 hrw).1).trans hrw
    have z0 := cell_of_row _ _ 0 _ _ _ hr2
    have z1 := cell_of_row _ _ 1 _ _ _ hr2
    have z2 := cell_of_row _ _ 2 _ _ _ hr2
    obtain ⟨F, hF⟩ : ∃ F, F = (init ++ [x]).flatMap PaV.cells := ⟨_, rfl⟩
    have hown : w2.ownsRow 0 94 3 (.slice (some ⟨g, 0, none⟩) N cap) N F := by
      have := (HO.out.2.2.2.2.1.below hbw).own
      rw [← HN.out.1] at this
      rw [hF]; exact this
    have HF0 := hid hF
    clear hF
    have H2 := hid (And.intro hbw hown)
    clear hb2 hbw hr2 hown x0 x1 x2 hrw
    go_wp2_with (at_builtin; refine wpList_append_grew _ rfl _ _ _ _ rfl 0 94 ip _ 3 56 Tryz.underlying25 HI.out.1 HI.out.2.1 HI.out.2.2.1 HI.out.2.2.2 rfl (.slice (some ⟨g, 0, none⟩) N cap) N _ rfl (ownsRow_below H2.out.2 ((Below.refl _ _).alloc (Nat.le_refl _) _)) _ 1 [.int .u64 (y.at_ : Int), u1, u2] rfl (Src.laid _ Tryz.underlying25 [.int .u64 (y.at_ : Int), u1, u2] 1 rfl HO.out.2.2.2.2.2.2.1 (0, 0) rfl) (Nat.le_trans (show N + 1 ≤ 200000 by have := HL.out; rw [← HN.out.1] at this; omega) (by decide)) (by have := HL.out; rw [← HN.out.1] at this; omega) (Nat.zero_le _) ?_)
    intro v' w' ho hg
    have hf := pa_append HO.out.2.2.2.1 (by have := HO.out.2.2.2.2.1; rwa [HN.out.1] at this) HO.out.2.2.2.2.2.1 H2.out.1 (by rw [← HN.out.1]; exact Grew.under ((Below.refl _ _).alloc (Nat.le_refl _) _) hg) (by rw [HO.out.2.2.2.2.2.2.2.1, ← HN.out.1, ← HF0.out]; exact ho) HO.out.2.1
    have HF := hid hf
    clear ho hg hf z0 z1 z2
    go_wp2_with fail
    go_ret
    exact HF.out
theorem patch_up {M M2 : Nat → Prop} {w w2 w' : World} {L : List PaV} {at_ : Nat} {o n : UInt8} {e : Ending} (hb : Below w.heap.size w w2) (hs : ∀ k, M2 k → Mn M w w2 k) (h : PatchEnd M2 w2 L at_ o n e w') : PatchEnd M w L at_ o n e w' := by
  obtain ⟨v', L', he, ho, hm, hi⟩ := h
  have hi2 : Its (Mn M w w2) (Mn (Mn M w w2) w2 w') w2 w' := its_mn (M1 := fun k => Mn M w w2 k ∨ Mn M2 w2 w' k) ⟨hi.os, hi.tape, hi.output, hi.size, fun k hk hn => hi.keep k hk (fun h => hn (hs k h)), fun _ h => .inl h, fun k hk => by
    rcases hk with h | h | h
    · exact .inl h
    · exact .inl (hs k h)
    · exact .inr h.1, fun hl k hk => by
    rcases hk with h | h | h
    · exact Nat.lt_of_lt_of_le (hl k h) hi.size
    · exact Nat.lt_of_lt_of_le (hl k (hs k h)) hi.size
    · exact h.2⟩
  refine ⟨v', L', he, ho.widen (fun k hk => ?_), hm, its_mn ((its_below M hb).trans hi2)⟩
  rcases hk with h | h
  · rcases hs k h with h | h
    · exact .inl h
    · exact .inr ⟨h.1, Nat.lt_of_lt_of_le h.2 hi.size⟩
  · exact .inr ⟨Nat.le_trans hb.size h.1, h.2⟩

set_option maxHeartbeats 2000000 in
theorem bd_patch (w : World) (M : Nat → Prop) (hlt : ∀ k, M k → k < w.heap.size) (v : Value) (L : List PaV) (h : OwnPa M w v L) (hlen : L.length ≤ 100000) (at_ : Nat) (on nn : UInt8) (hmax : at_ + 1 ≤ MAXA) :
    Calls Tryz.prog 27 #[v, .int .u64 (at_ : Int), .int .u8 (on.toNat : Int), .int .u8 (nn.toNat : Int)] w (PatchEnd M w L at_ on nn) := by
  obtain ⟨hb3, q1, q2, q3⟩ := alloc3 w (.cells #[.int .u64 (at_ : Int)] 36) (.cells #[.int .u8 (on.toNat : Int)] 5) (.cells #[.int .u8 (nn.toNat : Int)] 5)
  obtain ⟨W1, hW1⟩ : ∃ W1, W1 = ((w.alloc (.cells #[.int .u64 (at_ : Int)] 36)).alloc (.cells #[.int .u8 (on.toNat : Int)] 5)).alloc (.cells #[.int .u8 (nn.toNat : Int)] 5) := ⟨_, rfl⟩
  rw [← hW1] at hb3 q1 q2 q3
  have hB1 : BoxD W1 w.heap.size (w.heap.size + 1) (w.heap.size + 1 + 1) at_ on nn := ⟨q1, q2, q3⟩
  have hsz : W1.heap.size = w.heap.size + 3 := by rw [hW1]; simp
  obtain ⟨c1, c2, c3⟩ := hB1.cells
  have c3' : ∀ o : Obj, (W1.alloc o).cell? ⟨w.heap.size + 1 + 1, 0, none⟩ = some (.int .u8 (nn.toNat : Int)) := fun o => below_cell' ((Below.refl _ _).alloc (Nat.le_refl _) _) (by show w.heap.size + 1 + 1 < W1.heap.size; omega) c3
  obtain ⟨W2, hW2⟩ : ∃ W2, W2 = (W1.alloc (.cells #[.int .u8 (on.toNat : Int)] 5)).alloc (.cells #[.int .u8 (nn.toNat : Int)] 5) := ⟨_, rfl⟩
  have hb12 : Below W1.heap.size W1 W2 := by rw [hW2]; exact ((Below.refl _ _).alloc (Nat.le_refl _) _).alloc (by simp) _
  have hbw : Below w.heap.size w W2 := hb3.trans (hb12.mono hb3.size)
  have hs2 : W2.heap.size = w.heap.size + 5 := by rw [hW2]; simp; omega
  have r1 : W2.heap[w.heap.size + 3]? = some (.cells #[.int .u8 (on.toNat : Int)] 5 (0, 0)) := by
    rw [hW2, ← hsz]; exact (((Below.refl _ _).alloc (Nat.le_refl _) _ : Below (W1.alloc _).heap.size (W1.alloc _) _).block _ (by simp)).trans (heap_alloc_new W1 _)
  have r2 : W2.heap[w.heap.size + 3 + 1]? = some (.cells #[.int .u8 (nn.toNat : Int)] 5 (0, 0)) := by
    rw [hW2, ← hsz]; have := heap_alloc_new (W1.alloc (.cells #[.int .u8 (on.toNat : Int)] 5)) (.cells #[.int .u8 (nn.toNat : Int)] 5); rwa [World.size_alloc] at this
  obtain ⟨y, hy⟩ : ∃ y : PaV, y = ⟨at_, some ⟨w.heap.size + 3, 0, none⟩, 1, [on], some ⟨w.heap.size + 3 + 1, 0, none⟩, 1, [nn]⟩ := ⟨_, rfl⟩
  have one : ∀ {g : Nat} {b : UInt8}, W2.heap[g]? = some (.cells #[.int .u8 (b.toNat : Int)] 5 (0, 0)) → OB W2 0 5 (.slice (some ⟨g, 0, none⟩) 1 1) [b] := fun hr => ⟨rfl, .inr ⟨_, 1, _, rfl, Nat.zero_le _, hr, Nat.le_refl _, by decide, rfl, rfl⟩⟩
  have bl1 : ∀ k, y.s1.ownBlock = some k → k = w.heap.size + 3 := fun k hk => by rw [hy] at hk; exact (Option.some.inj hk).symm
  have bl2 : ∀ k, y.s2.ownBlock = some k → k = w.heap.size + 3 + 1 := fun k hk => by rw [hy] at hk; exact (Option.some.inj hk).symm
  have hnew : NewPa (fun k => M k ∨ k = w.heap.size + 3 ∨ k = w.heap.size + 3 + 1) W2 v L y on nn := by
    have hl2 := h.lt
    have yk : ∀ k, y.blk k → k = w.heap.size + 3 ∨ k = w.heap.size + 3 + 1 := fun k hk => hk.elim (fun h => .inl (bl1 k h)) (fun h => .inr (bl2 k h))
    refine ⟨by rw [hy], by rw [hy], by rw [hy]; exact one r1, by rw [hy]; exact one r2, fun k hk => ⟨.inr (yk k hk), fun e => ?_, fun x hx e => ?_⟩, fun k h1 h2 => ?_, by rw [hy]; exact hmax⟩
    · have := hl2.1 k e; rcases yk k hk with h | h <;> omega
    · have := hl2.2 x hx k e; rcases yk k hk with h | h <;> omega
    · have := bl1 k h1; have := bl2 k h2; omega
  have hcall := bd_pgrown W2 (fun k => M k ∨ k = w.heap.size + 3 ∨ k = w.heap.size + 3 + 1) (fun k hk => by rcases hk with h1 | h1 | h1; exact Nat.lt_of_lt_of_le (hlt k h1) hbw.size; omega; omega) v L ((h.below hbw).widen (fun k hk => .inl hk)) hlen y on nn hnew w.heap.size (w.heap.size + 1) (w.heap.size + 1 + 1)
    (by rw [hy]; exact hB1.below hb12) (fun h1 => by rcases h1 with h1 | h1 | h1; have := hlt _ h1; omega; omega; omega) (fun h1 => by rcases h1 with h1 | h1 | h1; have := hlt _ h1; omega; omega; omega)
  rw [hy] at hcall
  dsimp only at hcall
  have hK := hid (And.intro hcall (And.intro hbw hs2))
  have HW := hid hW1.symm
  have HW2 := hid hW2.symm
  have HS := hid hsz
  clear hlt h hlen hmax hb3 q1 q2 q3 hW1 hB1 hW2 hb12 hbw hs2 r1 r2 hy one bl1 bl2 hnew hcall hsz
  go_enter Tryz.func27, Tryz.ntmps27
  go_upto_region 1 with fail
  rw [HW.out]
  go_wp2_with fail
  rw [HW2.out, HS.out]
  refine hK.out.1.mono ?_
  intro e w3 hend
  have hend := patch_up hK.out.2.1 (M := M) (fun k hk => by rcases hk with h | h | h; exact .inl h; exact .inr ⟨by omega, by have := hK.out.2.2; omega⟩; exact .inr ⟨by omega, by have := hK.out.2.2; omega⟩) hend
  obtain ⟨v3, L3, rfl, hrest⟩ := hend
  have HE := hid hrest
  clear hrest
  go_wp2_with fail
  go_ret
  exact ⟨v3, L3, rfl, HE.out⟩
end Go.Proofs.YtjfkgdfmkofbmaaGreatDoor
