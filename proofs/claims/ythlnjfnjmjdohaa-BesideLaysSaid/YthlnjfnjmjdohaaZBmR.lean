/- Rows turned about: Turn. -/
import Derived.Test.YthlnjfnjmjdohaaZBmQ
namespace Go.Proofs.Ythlnjfnjmjdohaa
set_option linter.unusedSimpArgs false
set_option linter.unusedVariables false
open Go.RowKit

def AllNN (vs : Array Value) : Prop := ∀ (i : Nat) (u : Value), vs[i]? = some u → NotNum u
theorem allNN3 (p1 p2 p3 : Option Addr) (n1 n2 n3 c1 c2 c3 : Nat) : AllNN #[.slice p1 n1 c1, .slice p2 n2 c2, .slice p3 n3 c3] := fun i u h => by
  match i, h with
  | 0, h => simp at h; subst h; exact notNum_slice _ _ _
  | 1, h => simp at h; subst h; exact notNum_slice _ _ _
  | 2, h => simp at h; subst h; exact notNum_slice _ _ _
  | i + 3, h => simp at h
theorem BS.ne_rowS {W : World} {v : Value} {l : List UInt8} (h : BS W v l) {X : Nat} {t : TypeId} {vs : Array Value} (hr : RowAt W X t vs) (hu : AllNN vs) : ∀ k, inBlk v k → k ≠ X := by
  obtain ⟨p, cap, rfl, -, -, h3⟩ := h
  intro k hk e
  subst e
  cases p with
  | none => exact hk.elim
  | some a =>
    obtain ⟨h0, hb⟩ : 0 < l.length ∧ a.block = k := hk
    obtain ⟨b, off, ea, hc⟩ := h3 (List.length_pos_iff.1 h0)
    cases ea
    subst hb
    have h1 := hc 0 _ (List.getElem?_eq_getElem h0)
    unfold World.cell? at h1
    unfold RowAt at hr
    dsimp only at h1 hr
    rw [hr] at h1
    exact (hu _ _ h1).2 _ rfl
theorem PzsAt.ne_rowS {W : World} {v : Value} {L : List PzV} (h : PzsAt W v L) {X : Nat} {t : TypeId} {vs : Array Value} (hr : RowAt W X t vs) (hu : AllNN vs) : (∀ k, inBlk v k → k ≠ X) ∧ ∀ x ∈ L, ∀ k, inBlk x.sl k → k ≠ X := by
  refine ⟨fun k hk e => ?_, fun x hx => (h.bytes x hx).ne_rowS hr hu⟩
  subst e
  obtain ⟨p, cap, rfl⟩ := RowsAt.form h.rows
  cases p with
  | none => exact hk.elim
  | some a =>
    obtain ⟨h0, hb⟩ : 0 < L.length ∧ a.block = k := hk
    obtain ⟨g, off, ea, h1, -⟩ := h.cell (List.getElem?_eq_getElem h0)
    cases ea
    have hb : g = k := hb
    subst hb
    unfold World.cell? at h1
    unfold RowAt at hr
    dsimp only at h1 hr
    rw [hr] at h1
    exact (hu _ _ h1).1 _ rfl
theorem PzsAt.setS {W : World} {v : Value} {L : List PzV} (h : PzsAt W v L) {X i : Nat} {t : TypeId} {vs : Array Value} {u : Value} (hr : RowAt W X t vs) (hu : AllNN vs) : PzsAt (W.setCell ⟨X, i, none⟩ u) v L :=
  h.of_block (fun k hk => heap_setCell_other _ _ _ _ ((h.ne_rowS hr hu).1 k hk)) (fun x hx k hk => heap_setCell_other _ _ _ _ ((h.ne_rowS hr hu).2 x hx k hk))

/-- What stands while rows are turned. -/
structure TurnV (w W6 W : World) (va vb vp : Value) (rows : Array Value) (Lp : List PaV) : Prop where
  os : W.os = w.os
  tape : W.tape = w.tape
  output : W.output = w.output
  size : W6.heap.size ≤ W.heap.size
  exc : ∀ k, k < W6.heap.size → k ≠ w.heap.size + 1 → W.heap[k]? = W6.heap[k]?
  out : RowAt W (w.heap.size + 1) 28 #[va, vb, vp]
  own : OwnPaG (fun _ => True) (fun k => W6.heap.size ≤ k ∧ k < W.heap.size) W vp Lp
theorem TurnV.bel {w W6 W : World} {va vb vp : Value} {rows : Array Value} {Lp : List PaV} (h : TurnV w W6 W va vb vp rows Lp) (hb : Below w.heap.size w W6) : Below w.heap.size w W :=
  ⟨h.os, h.tape, h.output, Nat.le_trans hb.size h.size, fun k hk => (h.exc k (Nat.lt_of_lt_of_le hk hb.size) (by omega)).trans (hb.block k hk)⟩
theorem TurnV.below {w W6 W W' : World} {va vb vp : Value} {rows : Array Value} {Lp : List PaV} (h : TurnV w W6 W va vb vp rows Lp) (hb : Below W.heap.size W W') : TurnV w W6 W' va vb vp rows Lp :=
  ⟨hb.os.trans h.os, hb.tape.trans h.tape, hb.output.trans h.output, Nat.le_trans h.size hb.size, fun k hk hn => (hb.block k (Nat.lt_of_lt_of_le hk h.size)).trans (h.exc k hk hn), RowAt.below h.out hb, (h.own.below hb).widen (fun k hk => ⟨hk.1, Nat.lt_of_lt_of_le hk.2 hb.size⟩)⟩
theorem TurnV.push {w W6 wr w3 W7 : World} {va vb vq v6 : Value} {rows : Array Value} {Lq : List PaV} {y : PaV} (h : TurnV w W6 wr va vb vq rows Lq) (hK : w.heap.size + 1 < W6.heap.size) (hb : Below wr.heap.size wr w3) (h1 : OB w3 wr.heap.size 5 y.s1 y.old) (h2 : OB w3 wr.heap.size 5 y.s2 y.new)
    (hap : ∀ k, y.s1.ownBlock = some k → y.s2.ownBlock ≠ some k) (hg : Grew w3 W7 vq v6) (ho : W7.ownsRow W6.heap.size 54 3 v6 (Lq.length + 1) (Lq.flatMap PaV.cells ++ y.cells)) :
    TurnV w W6 (W7.setCell ⟨w.heap.size + 1, 2, none⟩ v6) va vb v6 rows (Lq ++ [y]) := by
  obtain ⟨W8, hW8⟩ : ∃ W, W = W7.setCell ⟨w.heap.size + 1, 2, none⟩ v6 := ⟨_, rfl⟩
  have hz : W8.heap.size = W7.heap.size := by rw [hW8]; simp [World.setCell]
  have set : ∀ k, k ≠ w.heap.size + 1 → W8.heap[k]? = W7.heap[k]? := fun k hk => by rw [hW8]; exact heap_setCell_other _ _ _ _ hk
  have hv : ∀ k, vq.ownBlock = some k → W6.heap.size ≤ k ∧ k < wr.heap.size := fun k hk => h.own.mv k hk
  have hs6 := h.size
  have hs3 := hb.size
  have hs7 := hg.size
  have old : ∀ k, k < wr.heap.size → vq.ownBlock ≠ some k → W7.heap[k]? = wr.heap[k]? := fun k hk hn => (hg.block (Nat.lt_of_lt_of_le hk hs3) hn).trans (hb.block k hk)
  have lies : ∀ k, v6.ownBlock = some k → vq.ownBlock = some k ∨ w3.heap.size ≤ k := fun k hk => by
    rcases hg.lies with e | ⟨j, e, hj⟩
    · exact .inl (e ▸ hk)
    · rw [e] at hk; cases hk; exact .inr hj
  have l1 := World.ownsRow.lt h1
  have l2 := World.ownsRow.lt h2
  have l6 := World.ownsRow.lt ho
  have yb : ∀ k, y.blk k → wr.heap.size ≤ k ∧ k < w3.heap.size := fun k hk => hk.elim (l1 k) (l2 k)
  have keepB : ∀ k, wr.heap.size ≤ k → k < w3.heap.size → W8.heap[k]? = w3.heap[k]? := fun k hk1 hk2 => (set k (by omega)).trans (hg.block hk2 (fun e => by have := (hv k e).2; omega))
  have hrow : RowAt W7 (w.heap.size + 1) 28 #[va, vb, vq] := (old _ (by omega) (fun e => by have := (hv _ e).1; omega)).trans h.out
  rw [← hW8]
  refine ⟨by rw [hW8]; exact hg.by_.os.trans (hb.os.trans h.os), by rw [hW8]; exact hg.by_.tape.trans (hb.tape.trans h.tape), by rw [hW8]; exact hg.by_.output.trans (hb.output.trans h.output), by rw [hz]; omega, fun k hk hn => ?_, by rw [hW8]; exact hrow.same (i := 2) v6, ?_⟩
  · exact (set k hn).trans ((old k (by omega) (fun e => by have := (hv k e).1; omega)).trans (h.exc k hk hn))
  · refine h.own.snoc (fun k hk => ⟨hk.1, by rw [hz]; have := hk.2; omega⟩) (fun k hk hn => (set k (by have := hk.1; omega)).trans (old k hk.2 hn)) (owns_of_block (ownsRow_base ho (Nat.zero_le _)) (fun k hk => set k (by have := (l6 k hk).1; omega))) (fun k hk => ?_) (fun k hk => ?_) (OB.base (owns_of_block h1 (fun k hk => keepB k (l1 k hk).1 (l1 k hk).2)) (Nat.zero_le _)) (OB.base (owns_of_block h2 (fun k hk => keepB k (l2 k hk).1 (l2 k hk).2)) (Nat.zero_le _)) hap trivial
    · refine ⟨⟨(l6 k hk).1, by rw [hz]; exact (l6 k hk).2⟩, ?_⟩
      rcases lies k hk with e | e
      · exact .inl e
      · exact .inr (fun hm => by have := hm.2; omega)
    · obtain ⟨q1, q2⟩ := yb k hk
      refine ⟨⟨by omega, by rw [hz]; omega⟩, fun x hx hxk => by have := (h.own.mx x hx k hxk).1.2; omega, fun e => ?_⟩
      rcases lies k e with e | e
      · have := (hv k e).2; omega
      · omega
theorem OwnPaG.readsG {K : PaV → Prop} {M : Nat → Prop} {W : World} {v : Value} {L : List PaV} (h : OwnPaG K M W v L) (hk : ∀ x ∈ L, x.old.length ≤ 140737488355328 ∧ x.new.length ≤ 140737488355328) : PasAt W v L :=
  ⟨own3_reads paLen h.own, fun x hx => (h.e1 x hx).bs (hk x hx).1, fun x hx => (h.e2 x hx).bs (hk x hx).2⟩
theorem pm_mem {L : List PaV} {P : List Gz} (h : L.map PaV.m = P) {x : PaV} (hx : x ∈ L) : x.m ∈ P := by rw [← h]; exact List.mem_map_of_mem hx

set_option maxHeartbeats 8000000 in
set_option maxRecDepth 8000 in
theorem bd_turn (w : World) (vl vg vp : Value) (Ll Lg : List PzV) (Lp : List PaV) (hl : PzsAt w vl Ll) (hg : PzsAt w vg Lg) (hp : PasAt w vp Lp) (hnl : ∀ x ∈ Ll, x.bytes ≠ []) (hng : ∀ x ∈ Lg, x.bytes ≠ []) (hnp : ∀ x ∈ Lp, x.old ≠ [] ∧ x.new ≠ []) (hll : Ll.length ≤ 1000000) (hlg : Lg.length ≤ 1000000) (hlp : Lp.length ≤ 1000000) :
    Calls Try.prog 22 #[.agg #[vl, vg, vp]] w fun e w' => ∃ va vb vq La Lb Lq, e = .returned (.agg #[va, vb, vq]) ∧ Below w.heap.size w w' ∧ PzsAt w' va La ∧ PzsAt w' vb Lb ∧ PasAt w' vq Lq ∧ rzV La Lb Lq = turnZ (rzV Ll Lg Lp) ∧ (∃ p n c, va = .slice p n c) ∧ (∃ p n c, vb = .slice p n c) ∧ ∃ p n c, vq = .slice p n c := by
  have hcG := hid (fun W (hb : Below w.heap.size w W) => bd_copied W _ Lg (hg.below hb) hng hlg)
  have hcL := hid (fun W (hb : Below w.heap.size w W) => bd_copied W _ Ll (hl.below hb) hnl hll)
  obtain ⟨p1, c1, rfl⟩ := RowsAt.form hl.rows
  obtain ⟨p2, c2, rfl⟩ := RowsAt.form hg.rows
  obtain ⟨p3, c3, rfl⟩ := RowsAt.form hp.rows
  obtain ⟨n1, e1⟩ : ∃ n, n = Ll.length := ⟨_, rfl⟩
  obtain ⟨n2, e2⟩ : ∃ n, n = Lg.length := ⟨_, rfl⟩
  obtain ⟨N, eN⟩ : ∃ n, n = Lp.length := ⟨_, rfl⟩
  rw [← e1] at hcL ⊢
  rw [← e2] at hcG ⊢
  rw [← eN] at hp hlp ⊢
  obtain ⟨ig, hig, hgz, hgs, hgb⟩ := info_parts infoG1
  have HI := hid (And.intro hig (And.intro hgz (And.intro hgs hgb)))
  have H := hid (And.intro hp (And.intro hnp (And.intro hlp eN)))
  clear hl hg hp hnl hng hnp hll hlg hlp e1 e2 eN hig hgz hgs hgb
  go_enter Try.func22, Try.ntmps22
  go_upto_region 1 with fail
  obtain ⟨hb1, rx, rt, hs1⟩ := alloc2 w (.cells #[.slice p1 n1 c1, .slice p2 n2 c2, .slice p3 N c3] 28) (.cells #[.slice none 0 0, .slice none 0 0, .slice none 0 0] 28)
  obtain ⟨W1, hW1⟩ : ∃ W, W = (w.alloc (.cells #[.slice p1 n1 c1, .slice p2 n2 c2, .slice p3 N c3] 28)).alloc (.cells #[.slice none 0 0, .slice none 0 0, .slice none 0 0] 28) := ⟨_, rfl⟩
  rw [← hW1] at hb1 rx rt hs1
  have hbd : Below w.heap.size w W1.drew := hb1.trans ((below_drewP W1).mono hb1.size)
  have rxd : RowAt W1.drew w.heap.size 28 #[.slice p1 n1 c1, .slice p2 n2 c2, .slice p3 N c3] := rx
  have rtd : RowAt W1.drew (w.heap.size + 1) 28 #[.slice none 0 0, .slice none 0 0, .slice none 0 0] := rt
  rw [← hW1]
  obtain ⟨WD, hWD⟩ : ∃ W, W = W1.drew := ⟨_, rfl⟩
  refine regionG (fun W : World => W.cell? ⟨w.heap.size, 0, none⟩ = some (.slice p1 n1 c1) ∧ W.cell? ⟨w.heap.size, 1, none⟩ = some (.slice p2 n2 c2)) [5] (by kernel_rfl) ?_
  rw [← hWD] at hbd rxd rtd ⊢
  have hS : (fun W : World => W.cell? ⟨w.heap.size, 0, none⟩ = some (.slice p1 n1 c1) ∧ W.cell? ⟨w.heap.size, 1, none⟩ = some (.slice p2 n2 c2)) WD := ⟨rxd.cell 0, rxd.cell 1⟩
  have HD := hid (And.intro hbd (And.intro rxd rtd))
  clear hW1 hb1 rx rt hs1 hbd rxd rtd hWD
  refine takeW (i := 0) rfl (by kernel_rfl) (by kernel_rfl) (by kernel_rfl) (by kernel_rfl) (fun _ _ _ h => h) (.inr hS) (.inl ⟨by rfl, by intro _ _; go_simp; with_reducible rfl⟩) ?_
  try simp only [Act.put, List.setIfInBounds_toArray, List.set_cons_zero, List.set_cons_succ]
  refine takeL (i := 1) rfl (by kernel_rfl) (by kernel_rfl) (by kernel_rfl) (by kernel_rfl) (by kernel_rfl) (by kernel_rfl) (by kernel_rfl) (fun _ _ _ h => h) hS (.inl ⟨by rfl, by intro _ hSw; (try dsimp only at hSw); go_simp; with_reducible rfl⟩) ?_
  try simp only [Act.put, List.setIfInBounds_toArray, List.set_cons_zero, List.set_cons_succ]
  refine takeW (i := 3) rfl (by kernel_rfl) (by kernel_rfl) (by kernel_rfl) (by kernel_rfl) (fun _ _ _ h => h) (.inr hS) (.inl ⟨by rfl, by intro _ _; go_simp; with_reducible rfl⟩) ?_
  try simp only [Act.put, List.setIfInBounds_toArray, List.set_cons_zero, List.set_cons_succ]
  refine takeL (i := 4) rfl (by kernel_rfl) (by kernel_rfl) (by kernel_rfl) (by kernel_rfl) (by kernel_rfl) (by kernel_rfl) (by kernel_rfl) (fun _ _ _ h => h) hS (.inl ⟨by rfl, by intro _ hSw; (try dsimp only at hSw); go_simp; with_reducible rfl⟩) ?_
  try simp only [Act.put, List.setIfInBounds_toArray, List.set_cons_zero, List.set_cons_succ]
  refine readyG (rs := [2]) (by kernel_rfl) (by simp) (consG rfl (fun K hK => ?_) nilG)
  go_simp
  refine (hcG.out WD HD.out.1).mono ?_
  rintro e w2 ⟨pa, na, ca, La, rfl, hb2, hla, hma⟩
  have bw2 := HD.out.1.trans (hb2.mono HD.out.1.size)
  have rx2 := RowAt.below HD.out.2.1 hb2
  have rt2 := RowAt.below HD.out.2.2 hb2
  have hS2 : (fun W : World => W.cell? ⟨w.heap.size, 0, none⟩ = some (.slice p1 n1 c1) ∧ W.cell? ⟨w.heap.size, 1, none⟩ = some (.slice p2 n2 c2)) w2 := ⟨rx2.cell 0, rx2.cell 1⟩
  have H2 := hid (And.intro bw2 (And.intro rx2 (And.intro rt2 (And.intro hla hma))))
  clear hb2 hla hma bw2 rx2 rt2
  dsimp only
  refine hK.out _ _ (.inr hS2) ?_
  clear hK K hS
  have hS := hS2
  clear hS2
  try simp only [Act.put, List.setIfInBounds_toArray, List.set_cons_zero, List.set_cons_succ]
  refine takeW (i := 6) rfl (by kernel_rfl) (by kernel_rfl) (by kernel_rfl) (by kernel_rfl) (fun _ _ _ h => h) (.inr hS) (.inl ⟨by rfl, by intro _ _; go_simp; with_reducible rfl⟩) ?_
  try simp only [Act.put, List.setIfInBounds_toArray, List.set_cons_zero, List.set_cons_succ]
  refine readyG (rs := [5]) (by kernel_rfl) (by simp) (consG rfl (fun K hK => ?_) nilG)
  go_simp
  refine (hcL.out w2 H2.out.1).mono ?_
  rintro e w3 ⟨pb, nb, cb, Lb, rfl, hb3, hlb, hmb⟩
  have bw3 := H2.out.1.trans (hb3.mono H2.out.1.size)
  have rx3 := RowAt.below H2.out.2.1 hb3
  have rt3 := RowAt.below H2.out.2.2.1 hb3
  have hla3 := H2.out.2.2.2.1.below hb3
  have t0 : w3.cell? ⟨w.heap.size + 1, 0, none⟩ = some (.slice none 0 0) := rt3.cell 0
  have t1 : w3.cell? ⟨w.heap.size + 1, 1, none⟩ = some (.slice none 0 0) := rt3.cell 1
  have f0 := rt3.own 0
  have f1 := rt3.own 1
  have H3 := hid (And.intro bw3 (And.intro rx3 (And.intro rt3 (And.intro hla3 (And.intro hlb hmb)))))
  clear hb3 hlb hmb bw3 rx3 rt3 hla3
  dsimp only
  refine hK.out _ _ (.inl (by kernel_rfl)) ?_
  clear hK K hS
  try simp only [Act.put, List.setIfInBounds_toArray, List.set_cons_zero, List.set_cons_succ]
  refine readyG (rs := [7]) (by kernel_rfl) (by simp) (consG rfl (fun K hK => ?_) nilG)
  go_simp
  have rt4 : RowAt (w3.setCell ⟨w.heap.size + 1, 0, none⟩ (.slice pa na ca)) (w.heap.size + 1) 28 #[.slice pa na ca, .slice none 0 0, .slice none 0 0] := H3.out.2.2.1.same (i := 0) _
  have t1' : (w3.setCell ⟨w.heap.size + 1, 0, none⟩ (.slice pa na ca)).cell? ⟨w.heap.size + 1, 1, none⟩ = some (.slice none 0 0) := rt4.cell 1
  have f1' := rt4.own 1
  have H4 := hid rt4
  clear rt4 t0 t1 f0 f1
  refine hK.out _ _ (.inl (by kernel_rfl)) ?_
  clear hK K
  try simp only [Act.put, List.setIfInBounds_toArray, List.set_cons_zero, List.set_cons_succ]
  refine takeW (i := 8) rfl (by kernel_rfl) (by kernel_rfl) (by kernel_rfl) (by kernel_rfl) (fun _ _ _ h => h) (.inl (by kernel_rfl)) (.inl ⟨by rfl, by intro _ _; go_simp; with_reducible rfl⟩) ?_
  try simp only [Act.put, List.setIfInBounds_toArray, List.set_cons_zero, List.set_cons_succ]
  refine readyG (rs := [9]) (by kernel_rfl) (by simp) (consG rfl (fun K hK => ?_) nilG)
  go_simp
  refine hK.out _ _ (.inl (by kernel_rfl)) ?_
  clear hK K t1' f1'
  refine doneG (by kernel_rfl) ?_ _
  have rt6 : RowAt ((w3.setCell ⟨w.heap.size + 1, 0, none⟩ (.slice pa na ca)).setCell ⟨w.heap.size + 1, 1, none⟩ (.slice pb nb cb)) (w.heap.size + 1) 28 #[.slice pa na ca, .slice pb nb cb, .slice none 0 0] := H4.out.same (i := 1) _
  have la6 := (H3.out.2.2.2.1.setS (i := 0) (u := .slice pa na ca) H3.out.2.2.1 (allNN3 _ _ _ _ _ _ _ _ _)).setS (i := 1) (u := .slice pb nb cb) H4.out (allNN3 _ _ _ _ _ _ _ _ _)
  have lb6 := (H3.out.2.2.2.2.1.setS (i := 0) (u := .slice pa na ca) H3.out.2.2.1 (allNN3 _ _ _ _ _ _ _ _ _)).setS (i := 1) (u := .slice pb nb cb) H4.out (allNN3 _ _ _ _ _ _ _ _ _)
  have bw6 : Below w.heap.size w ((w3.setCell ⟨w.heap.size + 1, 0, none⟩ (.slice pa na ca)).setCell ⟨w.heap.size + 1, 1, none⟩ (.slice pb nb cb)) :=
    ⟨H3.out.1.os, H3.out.1.tape, H3.out.1.output, by simp [World.setCell]; exact H3.out.1.size, fun k hk => (heap_setCell_other _ _ _ _ (show k ≠ w.heap.size + 1 by omega)).trans ((heap_setCell_other _ _ _ _ (show k ≠ w.heap.size + 1 by omega)).trans (H3.out.1.block k hk))⟩
  have rx6 : RowAt ((w3.setCell ⟨w.heap.size + 1, 0, none⟩ (.slice pa na ca)).setCell ⟨w.heap.size + 1, 1, none⟩ (.slice pb nb cb)) w.heap.size 28 #[.slice p1 n1 c1, .slice p2 n2 c2, .slice p3 N c3] := (heap_setCell_other _ _ _ _ (show w.heap.size ≠ w.heap.size + 1 by omega)).trans ((heap_setCell_other _ _ _ _ (show w.heap.size ≠ w.heap.size + 1 by omega)).trans H3.out.2.1)
  obtain ⟨W6, hW6⟩ : ∃ W, W = (w3.setCell ⟨w.heap.size + 1, 0, none⟩ (.slice pa na ca)).setCell ⟨w.heap.size + 1, 1, none⟩ (.slice pb nb cb) := ⟨_, rfl⟩
  rw [← hW6] at rt6 la6 lb6 bw6 rx6 ⊢
  have z2 : W6.cell? ⟨w.heap.size, 2, none⟩ = some (.slice p3 N c3) := rx6.cell 2
  have H6 := hid (And.intro bw6 (And.intro rx6 (And.intro rt6 (And.intro la6 (And.intro lb6 (And.intro H2.out.2.2.2.2 H3.out.2.2.2.2.2))))))
  clear rt6 la6 lb6 bw6 rx6 hW6
  go_wp2_with fail
  go_loopw [4, 16] (fun v4 vi wr => ∃ (k : Nat) (vq : Value) (Lq : List PaV), k ≤ N ∧ vi = .int .i64 (k : Int) ∧ TurnV w W6 wr (.slice pa na ca) (.slice pb nb cb) vq #[] Lq ∧ Lq.map PaV.m = ((Lp.take k).map PaV.m).map turnG) (fun _ vi _ => N - (intOf vi).toNat)
  case atStart => exact ⟨0, _, [], Nat.zero_le _, rfl, ⟨H6.out.1.os, H6.out.1.tape, H6.out.1.output, Nat.le_refl _, fun _ _ _ => rfl, H6.out.2.2.1, OwnPaG.nil _ _⟩, rfl⟩
  case round =>
    obtain ⟨k, vq, Lq, hk, rfl, ht, hm⟩ := hrel
    obtain ⟨u1, u2, u3, rfl⟩ := own_form ht.own.own
    have hbw := ht.bel H6.out.1
    by_cases hlt : k < N
    · obtain ⟨x, hx⟩ : ∃ x, Lp[k]? = some x := ⟨_, List.getElem?_eq_getElem (by have := H.out.2.2.2; omega)⟩
      have hpw := H.out.1.below hbw
      obtain ⟨g, off, e5, y0, y1, y2⟩ := hpw.cell hx
      subst e5
      have hxm := List.mem_of_getElem? hx
      have hb1 := hpw.b1 x hxm
      have hb2 := hpw.b2 x hxm
      have hxne := H.out.2.1 x hxm
      have htk : ((Lp.take (k + 1)).map PaV.m).map turnG = ((Lp.take k).map PaV.m).map turnG ++ [turnG x.m] := by rw [List.take_add_one, hx, List.map_append, List.map_append]; rfl
      have hltz : decide ((k : Int) < (N : Int)) = true := by rw [decide_eq_true_eq]; omega
      have hltn : decide (k < N) = true := by rw [decide_eq_true_eq]; omega
      have i1 : (0 : Int) ≤ (k : Int) := by omega
      have i2 : (k : Int) < (N : Int) := by omega
      have hwk : IntKind.i64.wrap ((k : Int) + 1) = ((k + 1 : Nat) : Int) := (IntWalk.i64_in _ (by have := H.out.2.2.1; omega)).trans (by omega)
      have hLq : Lq.length = k := by have h1 := congrArg List.length hm; rw [List.length_map, List.length_map, List.length_map, List.length_take] at h1; have := H.out.2.2.2; omega
      obtain ⟨xa, xp1, xc1, xo, xp2, xc2, xn⟩ := x
      obtain ⟨no, hno⟩ : ∃ n, n = xo.length := ⟨_, rfl⟩
      obtain ⟨nn, hnn⟩ : ∃ n, n = xn.length := ⟨_, rfl⟩
      dsimp only [PaV.s1, PaV.s2] at y0 y1 y2 hb1 hb2 hxne
      rw [← hno] at y1
      rw [← hnn] at y2
      have HNO := hid hno
      have HNN := hid hnn
      clear hno hnn
      go_upto_region 5 with fail
      obtain ⟨V, hV⟩ : ∃ V, V = wr.alloc (.cells #[.int .u64 (xa : Int), .slice xp1 no xc1, .slice xp2 nn xc2] 54) := ⟨_, rfl⟩
      have bV : Below wr.heap.size wr V := by rw [hV]; exact (Below.refl _ _).alloc (Nat.le_refl _) _
      have rV : RowAt V wr.heap.size 54 #[.int .u64 (xa : Int), .slice xp1 no xc1, .slice xp2 nn xc2] := by rw [hV]; exact heap_alloc_new wr _
      have sV : V.heap.size = wr.heap.size + 1 := by rw [hV]; simp
      rw [← hV]
      obtain ⟨VD, hVD⟩ : ∃ W, W = V.drew := ⟨_, rfl⟩
      refine regionG (fun W : World => W.cell? ⟨w.heap.size + 1, 2, none⟩ = some (.slice u1 u2 u3) ∧ W.cell? ⟨wr.heap.size, 0, none⟩ = some (.int .u64 (xa : Int)) ∧ W.cell? ⟨wr.heap.size, 1, none⟩ = some (.slice xp1 no xc1) ∧ W.cell? ⟨wr.heap.size, 2, none⟩ = some (.slice xp2 nn xc2)) [12] (by kernel_rfl) ?_
      have bVD : Below wr.heap.size wr VD := by rw [hVD]; exact bV.trans ((below_drewP V).mono bV.size)
      have rVD : RowAt VD wr.heap.size 54 #[.int .u64 (xa : Int), .slice xp1 no xc1, .slice xp2 nn xc2] := by rw [hVD]; exact rV
      have sVD : VD.heap.size = wr.heap.size + 1 := by rw [hVD]; exact sV
      rw [← hVD]
      have oVD := (ht.below bVD).out
      have hS : (fun W : World => W.cell? ⟨w.heap.size + 1, 2, none⟩ = some (.slice u1 u2 u3) ∧ W.cell? ⟨wr.heap.size, 0, none⟩ = some (.int .u64 (xa : Int)) ∧ W.cell? ⟨wr.heap.size, 1, none⟩ = some (.slice xp1 no xc1) ∧ W.cell? ⟨wr.heap.size, 2, none⟩ = some (.slice xp2 nn xc2)) VD := ⟨oVD.cell 2, rVD.cell 0, rVD.cell 1, rVD.cell 2⟩
      have hc2 := bd_clone VD xp2 xc2 xn (hb2.below bVD) hxne.2
      have hc1 := fun (W : World) (hb : Below VD.heap.size VD W) => bd_clone W xp1 xc1 xo (hb1.below (bVD.trans (hb.mono bVD.size))) hxne.1
      rw [← HNN.out] at hc2
      rw [← HNO.out] at hc1
      have HX := hid (And.intro ht (And.intro hm (And.intro bVD (And.intro rVD (And.intro sVD (And.intro htk (And.intro hlt hLq)))))))
      have HC2 := hid hc2
      have HC1 := hid hc1
      clear hV hVD bV rV sV bVD rVD sVD oVD hc1 hc2 ht hm htk hlt hLq hk hbw hpw hx hxm hb1 hb2 hxne y0 y1 y2
      refine takeW (i := 0) rfl (by kernel_rfl) (by kernel_rfl) (by kernel_rfl) (by kernel_rfl) (fun _ _ _ h => h) (.inr hS) (.inl ⟨by rfl, by intro _ _; go_simp; with_reducible rfl⟩) ?_
      try simp only [Act.put, List.setIfInBounds_toArray, List.set_cons_zero, List.set_cons_succ]
      refine takeL (i := 1) rfl (by kernel_rfl) (by kernel_rfl) (by kernel_rfl) (by kernel_rfl) (by kernel_rfl) (by kernel_rfl) (by kernel_rfl) (fun _ _ _ h => h) hS (.inl ⟨by rfl, by intro _ hSw; (try dsimp only at hSw); go_simp; with_reducible rfl⟩) ?_
      try simp only [Act.put, List.setIfInBounds_toArray, List.set_cons_zero, List.set_cons_succ]
      refine takeW (i := 2) rfl (by kernel_rfl) (by kernel_rfl) (by kernel_rfl) (by kernel_rfl) (fun _ _ _ h => h) (.inr hS) (.inl ⟨by rfl, by intro _ _; go_simp; with_reducible rfl⟩) ?_
      try simp only [Act.put, List.setIfInBounds_toArray, List.set_cons_zero, List.set_cons_succ]
      refine takeL (i := 3) rfl (by kernel_rfl) (by kernel_rfl) (by kernel_rfl) (by kernel_rfl) (by kernel_rfl) (by kernel_rfl) (by kernel_rfl) (fun _ _ _ h => h) hS (.inl ⟨by rfl, by intro _ hSw; (try dsimp only at hSw); go_simp; with_reducible rfl⟩) ?_
      try simp only [Act.put, List.setIfInBounds_toArray, List.set_cons_zero, List.set_cons_succ]
      refine takeW (i := 4) rfl (by kernel_rfl) (by kernel_rfl) (by kernel_rfl) (by kernel_rfl) (fun _ _ _ h => h) (.inr hS) (.inl ⟨by rfl, by intro _ _; go_simp; with_reducible rfl⟩) ?_
      try simp only [Act.put, List.setIfInBounds_toArray, List.set_cons_zero, List.set_cons_succ]
      refine takeL (i := 5) rfl (by kernel_rfl) (by kernel_rfl) (by kernel_rfl) (by kernel_rfl) (by kernel_rfl) (by kernel_rfl) (by kernel_rfl) (fun _ _ _ h => h) hS (.inl ⟨by rfl, by intro _ hSw; (try dsimp only at hSw); go_simp; with_reducible rfl⟩) ?_
      try simp only [Act.put, List.setIfInBounds_toArray, List.set_cons_zero, List.set_cons_succ]
      refine takeW (i := 7) rfl (by kernel_rfl) (by kernel_rfl) (by kernel_rfl) (by kernel_rfl) (fun _ _ _ h => h) (.inr hS) (.inl ⟨by rfl, by intro _ _; go_simp; with_reducible rfl⟩) ?_
      try simp only [Act.put, List.setIfInBounds_toArray, List.set_cons_zero, List.set_cons_succ]
      refine takeL (i := 8) rfl (by kernel_rfl) (by kernel_rfl) (by kernel_rfl) (by kernel_rfl) (by kernel_rfl) (by kernel_rfl) (by kernel_rfl) (fun _ _ _ h => h) hS (.inl ⟨by rfl, by intro _ hSw; (try dsimp only at hSw); go_simp; with_reducible rfl⟩) ?_
      try simp only [Act.put, List.setIfInBounds_toArray, List.set_cons_zero, List.set_cons_succ]
      refine readyG (rs := [6]) (by kernel_rfl) (by simp) (consG rfl (fun K hK => ?_) nilG)
      go_simp
      refine HC2.out.mono ?_
      rintro e w2 ⟨v2, rfl, ho2, hbb2⟩
      obtain ⟨pN, cN, hv2⟩ := sl_form (x := ⟨xa, 1, none, 0, xn⟩) (OB.base ho2 (Nat.zero_le _))
      rw [← HNN.out] at hv2
      subst hv2
      have r2 := RowAt.below HX.out.2.2.2.1 hbb2
      have o2 := ((HX.out.1.below HX.out.2.2.1).below hbb2).out
      have hS2 : (fun W : World => W.cell? ⟨w.heap.size + 1, 2, none⟩ = some (.slice u1 u2 u3) ∧ W.cell? ⟨wr.heap.size, 0, none⟩ = some (.int .u64 (xa : Int)) ∧ W.cell? ⟨wr.heap.size, 1, none⟩ = some (.slice xp1 no xc1) ∧ W.cell? ⟨wr.heap.size, 2, none⟩ = some (.slice xp2 nn xc2)) w2 := ⟨o2.cell 2, r2.cell 0, r2.cell 1, r2.cell 2⟩
      have H2b := hid (And.intro ho2 (And.intro hbb2 r2))
      clear ho2 hbb2 r2 o2
      dsimp only
      refine hK.out _ _ (.inr hS2) ?_
      clear hK K hS
      have hS := hS2
      clear hS2
      try simp only [Act.put, List.setIfInBounds_toArray, List.set_cons_zero, List.set_cons_succ]
      refine readyG (rs := [9]) (by kernel_rfl) (by simp) (consG rfl (fun K hK => ?_) nilG)
      go_simp
      refine (HC1.out w2 H2b.out.2.1).mono ?_
      rintro e w3 ⟨v3, rfl, ho3, hbb3⟩
      obtain ⟨pO, cO, hv3⟩ := sl_form (x := ⟨xa, 1, none, 0, xo⟩) (OB.base ho3 (Nat.zero_le _))
      rw [← HNO.out] at hv3
      subst hv3
      have r3 := RowAt.below H2b.out.2.2 hbb3
      have hb3w : Below wr.heap.size wr w3 := HX.out.2.2.1.trans ((H2b.out.2.1.trans (hbb3.mono H2b.out.2.1.size)).mono HX.out.2.2.1.size)
      have o3 := (HX.out.1.below hb3w).out
      have hS3 : (fun W : World => W.cell? ⟨w.heap.size + 1, 2, none⟩ = some (.slice u1 u2 u3) ∧ W.cell? ⟨wr.heap.size, 0, none⟩ = some (.int .u64 (xa : Int)) ∧ W.cell? ⟨wr.heap.size, 1, none⟩ = some (.slice xp1 no xc1) ∧ W.cell? ⟨wr.heap.size, 2, none⟩ = some (.slice xp2 nn xc2)) w3 := ⟨o3.cell 2, r3.cell 0, r3.cell 1, r3.cell 2⟩
      have hN3 : OB w3 wr.heap.size 5 (.slice pN nn cN) xn := OB.base (OB.below H2b.out.1 hbb3) HX.out.2.2.1.size
      have hO3 : OB w3 wr.heap.size 5 (.slice pO no cO) xo := OB.base ho3 (Nat.le_trans HX.out.2.2.1.size H2b.out.2.1.size)
      have hap : ∀ k, (Value.slice pN nn cN).ownBlock = some k → (Value.slice pO no cO).ownBlock ≠ some k := fun k h1 h2 => by
        have := (World.ownsRow.lt H2b.out.1 k h1).2
        have := (World.ownsRow.lt ho3 k h2).1
        omega
      have hown3 : w3.ownsRow W6.heap.size 54 3 (.slice u1 u2 u3) Lq.length (Lq.flatMap PaV.cells) := by
        obtain ⟨q1, q2 | ⟨gq, capq, curq, eq, -, rest⟩⟩ := HX.out.1.own.own
        · exact ownsRow_below (w := wr) ⟨q1, .inl q2⟩ hb3w
        · exact ownsRow_below (w := wr) ⟨q1, .inr ⟨gq, capq, curq, eq, (HX.out.1.own.mv gq (by rw [eq]; rfl)).1, rest⟩⟩ hb3w
      have H3b := hid (And.intro hb3w (And.intro hN3 (And.intro hO3 (And.intro hap (And.intro hown3 o3)))))
      clear ho3 hbb3 r3 hb3w o3 hN3 hO3 hap hown3
      dsimp only
      refine hK.out _ _ (.inr hS3) ?_
      clear hK K hS
      have hS := hS3
      clear hS3
      try simp only [Act.put, List.setIfInBounds_toArray, List.set_cons_zero, List.set_cons_succ]
      refine takeW (i := 10) rfl (by kernel_rfl) (by kernel_rfl) (by kernel_rfl) (by kernel_rfl) (fun _ _ _ h => h) (.inr hS) (.inl ⟨by rfl, by intro _ _; go_simp; with_reducible rfl⟩) ?_
      try simp only [Act.put, List.setIfInBounds_toArray, List.set_cons_zero, List.set_cons_succ]
      refine readyG (rs := [11]) (by kernel_rfl) (by simp) (consG rfl (fun K hK => ?_) nilG)
      go_simp
      have hS4 : (fun W : World => W.cell? ⟨w.heap.size + 1, 2, none⟩ = some (.slice u1 u2 u3) ∧ W.cell? ⟨wr.heap.size, 0, none⟩ = some (.int .u64 (xa : Int)) ∧ W.cell? ⟨wr.heap.size, 1, none⟩ = some (.slice xp1 no xc1) ∧ W.cell? ⟨wr.heap.size, 2, none⟩ = some (.slice xp2 nn xc2)) (w3.alloc (.cells #[.int .u64 (xa : Int), .slice pN nn cN, .slice pO no cO] 54)) := by
        have hb4 : Below w3.heap.size w3 (w3.alloc (.cells #[.int .u64 (xa : Int), .slice pN nn cN, .slice pO no cO] 54)) := (Below.refl _ _).alloc (Nat.le_refl _) _
        exact ⟨below_cell' hb4 (World.block_lt_of_cell? w3 _ hS.1) hS.1, below_cell' hb4 (World.block_lt_of_cell? w3 _ hS.2.1) hS.2.1, below_cell' hb4 (World.block_lt_of_cell? w3 _ hS.2.2.1) hS.2.2.1, below_cell' hb4 (World.block_lt_of_cell? w3 _ hS.2.2.2) hS.2.2.2⟩
      refine hK.out _ _ (.inr hS4) ?_
      clear hK K hS hS4
      try simp only [Act.put, List.setIfInBounds_toArray, List.set_cons_zero, List.set_cons_succ]
      refine readyG (rs := [12]) (by kernel_rfl) (by simp) (consG rfl (fun K hK => ?_) nilG)
      refine step_grewB _ rfl _ _ _ _ rfl W6.heap.size 54 ig _ 3 56 Try.underlying26 HI.out.1 HI.out.2.1 HI.out.2.2.1 HI.out.2.2.2 rfl (.slice u1 u2 u3) Lq.length (Lq.flatMap PaV.cells) rfl (ownsRow_below H3b.out.2.2.2.2.1 ((Below.refl _ _).alloc (Nat.le_refl _) _)) _ 1 [.int .u64 (xa : Int), .slice pN nn cN, .slice pO no cO] rfl (Src.laid _ Try.underlying26 [.int .u64 (xa : Int), .slice pN nn cN, .slice pO no cO] 1 rfl (by simp [Value.oneCell']) (0, 0) (by simp)) (Nat.le_trans (show Lq.length + 1 ≤ 1000001 by have := HX.out.2.2.2.2.2.2.2; have := H.out.2.2.1; have := HX.out.2.2.2.2.2.2.1; omega) (by decide)) (by have := HX.out.2.2.2.2.2.2.2; have := H.out.2.2.1; have := HX.out.2.2.2.2.2.2.1; omega) (by have := HX.out.1.size; have := H3b.out.1.size; simp; omega) ?_
      intro v6 W7 ho7 hg7
      have hg7 := Grew.under ((Below.refl _ _).alloc (Nat.le_refl _) _ : Below w3.heap.size w3 _) hg7
      obtain ⟨r1, r2, r3, rfl⟩ := own_form ho7
      have hpush := HX.out.1.push (y := ⟨xa, pN, cN, xn, pO, cO, xo⟩) H6.out.2.2.1.lt H3b.out.1 (by dsimp only [PaV.s1]; rw [← HNN.out]; exact H3b.out.2.1) (by dsimp only [PaV.s2]; rw [← HNO.out]; exact H3b.out.2.2.1) (by dsimp only [PaV.s1, PaV.s2]; rw [← HNN.out, ← HNO.out]; exact H3b.out.2.2.2.1) hg7 (by dsimp only [PaV.cells, PaV.s1, PaV.s2]; rw [← HNN.out, ← HNO.out]; exact ho7)
      have o7 : RowAt W7 (w.heap.size + 1) 28 #[.slice pa na ca, .slice pb nb cb, .slice u1 u2 u3] := (hg7.block H3b.out.2.2.2.2.2.lt (fun e => by have := (HX.out.1.own.mv _ e).1; have := H6.out.2.2.1.lt; omega)).trans H3b.out.2.2.2.2.2
      have c7 : W7.cell? ⟨w.heap.size + 1, 2, none⟩ = some (.slice u1 u2 u3) := o7.cell 2
      have f7 := o7.own 2
      have H7 := hid hpush
      clear ho7 hg7 hpush o7
      refine hK.out _ _ (.inl (by kernel_rfl)) ?_
      clear hK K
      try simp only [Act.put, List.setIfInBounds_toArray, List.set_cons_zero, List.set_cons_succ]
      refine takeW (i := 13) rfl (by kernel_rfl) (by kernel_rfl) (by kernel_rfl) (by kernel_rfl) (fun _ _ _ h => h) (.inl (by kernel_rfl)) (.inl ⟨by rfl, by intro _ _; go_simp; with_reducible rfl⟩) ?_
      try simp only [Act.put, List.setIfInBounds_toArray, List.set_cons_zero, List.set_cons_succ]
      refine readyG (rs := [14]) (by kernel_rfl) (by simp) (consG rfl (fun K hK => ?_) nilG)
      go_simp
      refine hK.out _ _ (.inl (by kernel_rfl)) ?_
      clear hK K c7 f7
      refine doneG (by kernel_rfl) ?_ _
      go_wp2_with fail
      exact ⟨⟨k + 1, _, _, by have := HX.out.2.2.2.2.2.2.1; omega, by go_num, H7.out, by rw [HX.out.2.2.2.2.2.1, List.map_append, HX.out.2.1]; rfl⟩, by simp only [intOf, Int.toNat_natCast]; have := HX.out.2.2.2.2.2.2.1; omega⟩
    · have hkN : k = N := by omega
      have hltz : decide ((k : Int) < (N : Int)) = false := by rw [decide_eq_false_iff_not]; omega
      have hltn : decide (k < N) = false := by rw [decide_eq_false_iff_not]; omega
      have hm' : Lq.map PaV.m = (Lp.map PaV.m).map turnG := by rw [hm, hkN, H.out.2.2.2, List.take_length]
      have hrd : PasAt wr (.slice u1 u2 u3) Lq := ht.own.readsG (fun y hy => by
        have h1 := pm_mem hm' hy
        obtain ⟨g, hg, e⟩ := List.mem_map.1 h1
        obtain ⟨x, hx, e2⟩ := List.mem_map.1 hg
        obtain ⟨_, _, _, _, q1, _⟩ := H.out.1.b1 x hx
        obtain ⟨_, _, _, _, q2, _⟩ := H.out.1.b2 x hx
        rw [← e2] at e
        have e3 := congrArg Gz.old e
        have e4 := congrArg Gz.new e
        have e3 : x.new = y.old := e3
        have e4 : x.old = y.new := e4
        exact ⟨by rw [← e3]; exact q2.2, by rw [← e4]; exact q1.2⟩)
      have hla := H6.out.2.2.2.1.of_block (W' := wr) (fun k hk => ht.exc k (H6.out.2.2.2.1.blt.1 k hk) ((H6.out.2.2.2.1.ne_rowS H6.out.2.2.1 (allNN3 _ _ _ _ _ _ _ _ _)).1 k hk)) (fun x hx k hk => ht.exc k (H6.out.2.2.2.1.blt.2 x hx k hk) ((H6.out.2.2.2.1.ne_rowS H6.out.2.2.1 (allNN3 _ _ _ _ _ _ _ _ _)).2 x hx k hk))
      have hlb := H6.out.2.2.2.2.1.of_block (W' := wr) (fun k hk => ht.exc k (H6.out.2.2.2.2.1.blt.1 k hk) ((H6.out.2.2.2.2.1.ne_rowS H6.out.2.2.1 (allNN3 _ _ _ _ _ _ _ _ _)).1 k hk)) (fun x hx k hk => ht.exc k (H6.out.2.2.2.2.1.blt.2 x hx k hk) ((H6.out.2.2.2.2.1.ne_rowS H6.out.2.2.1 (allNN3 _ _ _ _ _ _ _ _ _)).2 x hx k hk))
      have z0 : wr.cell? ⟨w.heap.size + 1, 0, none⟩ = some (.slice pa na ca) := ht.out.cell 0
      have z1 : wr.cell? ⟨w.heap.size + 1, 1, none⟩ = some (.slice pb nb cb) := ht.out.cell 1
      have z3 : wr.cell? ⟨w.heap.size + 1, 2, none⟩ = some (.slice u1 u2 u3) := ht.out.cell 2
      have f0 := ht.out.own 0
      have f1 := ht.out.own 1
      have f2 := ht.out.own 2
      have s0 : wr.setCell ⟨w.heap.size + 1, 0, none⟩ (.slice pa na ca) = wr := setCell_selfB (i := 0) ht.out rfl
      have s1 : wr.setCell ⟨w.heap.size + 1, 1, none⟩ (.slice pb nb cb) = wr := setCell_selfB (i := 1) ht.out rfl
      have s2 : wr.setCell ⟨w.heap.size + 1, 2, none⟩ (.slice u1 u2 u3) = wr := setCell_selfB (i := 2) ht.out rfl
      have HN := hid (And.intro hbw (And.intro hla (And.intro hlb (And.intro hrd hm'))))
      clear ht hm hk hkN hlt hm' hrd hla hlb hbw
      go_wp2_with fail
      refine bodyPost_ret (v := .agg #[.slice pa na ca, .slice pb nb cb, .slice u1 u2 u3]) (by simp [results, Try.results22, go_sem, z0, z1, z3]) rfl ?_
      refine ⟨_, _, _, La, Lb, Lq, rfl, HN.out.1, HN.out.2.1, HN.out.2.2.1, HN.out.2.2.2.1, ?_, ⟨_, _, _, rfl⟩, ⟨_, _, _, rfl⟩, ⟨_, _, _, rfl⟩⟩
      unfold rzV turnZ
      dsimp only
      rw [H6.out.2.2.2.2.2.1, H6.out.2.2.2.2.2.2, HN.out.2.2.2.2]
end Go.Proofs.Ythlnjfnjmjdohaa
