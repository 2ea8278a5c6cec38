/- The document's Memory while it is gathered: what is lost, gained, patched, and where it lies. -/
import Derived.Test.YthlnjfnjmjdohaaZBrD
namespace Go.Proofs.Ythlnjfnjmjdohaa
set_option linter.unusedSimpArgs false
set_option linter.unusedVariables false
open Go.RowKit

/-- B: all lies from there on; X: the box of the rows. -/
structure RefV (K : PaV → Prop) (B X : Nat) (w W : World) (vl vg vp : Value) (Cl Cg : List Cz) (Lp : List PaV) : Prop where
  bel : Below B w W
  row : RowAt W X 28 #[.slice none 0 0, .slice none 0 0, vp]
  l : W.ownsRow B 63 3 vl Cl.length (Cl.flatMap czC)
  g : W.ownsRow B 63 3 vg Cg.length (Cg.flatMap czC)
  p : OwnPaG K (blkPa vp Lp) W vp Lp
  dl : ∀ k, vl.ownBlock = some k → k ≠ X ∧ vg.ownBlock ≠ some k ∧ ¬ blkPa vp Lp k
  dg : ∀ k, vg.ownBlock = some k → k ≠ X ∧ ¬ blkPa vp Lp k
  dp : ∀ k, blkPa vp Lp k → B ≤ k ∧ k ≠ X
  hX : B ≤ X
section
variable {K K' : PaV → Prop} {B X : Nat} {w W W1 W2 W' : World} {vl vg vp : Value} {Cl Cg : List Cz} {Lp : List PaV}

theorem OwnPaG.bltG {M : Nat → Prop} {v : Value} {L : List PaV} (h : OwnPaG K M W v L) : ∀ k, blkPa v L k → k < W.heap.size := fun k hk => hk.elim (h.lt.1 k) (fun ⟨x, hx, e⟩ => h.lt.2 x hx k e)
theorem OwnPaG.tightG {M : Nat → Prop} {v : Value} {L : List PaV} (h : OwnPaG K M W v L) : OwnPaG K (blkPa v L) W v L :=
  ⟨h.own, h.e1, h.e2, fun k hk => .inl hk, fun x hx k hk => ⟨.inr ⟨x, hx, hk⟩, (h.mx x hx k hk).2⟩, h.self, h.pair, h.ok⟩
theorem OwnPaG.subG {M : Nat → Prop} {v : Value} {L : List PaV} (h : OwnPaG K M W v L) : ∀ k, blkPa v L k → M k := fun k hk => hk.elim (h.mv k) (fun ⟨x, hx, e⟩ => (h.mx x hx k e).1)
theorem RefV.any (h : RefV K B X w W vl vg vp Cl Cg Lp) (hk : ∀ x ∈ Lp, K' x) : RefV K' B X w W vl vg vp Cl Cg Lp := ⟨h.bel, h.row, h.l, h.g, ⟨h.p.own, h.p.e1, h.p.e2, h.p.mv, h.p.mx, h.p.self, h.p.pair, hk⟩, h.dl, h.dg, h.dp, h.hX⟩
theorem RefV.below (h : RefV K B X w W vl vg vp Cl Cg Lp) (hb : Below W.heap.size W W') (hB : B ≤ W.heap.size) : RefV K B X w W' vl vg vp Cl Cg Lp :=
  ⟨h.bel.trans (hb.mono hB), (hb.block X h.row.lt).trans h.row, ownsRow_below h.l hb, ownsRow_below h.g hb, h.p.below hb, h.dl, h.dg, h.dp, h.hX⟩
theorem RefV.size (h : RefV K B X w W vl vg vp Cl Cg Lp) : B ≤ W.heap.size := Nat.le_of_lt (Nat.lt_of_le_of_lt h.hX h.row.lt)
theorem RefV.pushL {vl' : Value} {c : Cz} (h : RefV K B X w W vl vg vp Cl Cg Lp) (hb : Below W.heap.size W W1) (hg : Grew W1 W' vl vl') (ho : W'.ownsRow B 63 3 vl' (Cl.length + 1) (Cl.flatMap czC ++ czC c)) : RefV K B X w W' vl' vg vp (Cl ++ [c]) Cg Lp := by
  have hs := hb.size
  have keep : ∀ k, k < W.heap.size → vl.ownBlock ≠ some k → W'.heap[k]? = W.heap[k]? := fun k hk hne => (hg.block (Nat.lt_of_lt_of_le hk hs) hne).trans (hb.block k hk)
  have lies : ∀ k, vl'.ownBlock = some k → vl.ownBlock = some k ∨ W.heap.size ≤ k := fun k hk => by
    rcases hg.lies with e | ⟨j, e, hj⟩
    · exact .inl (e ▸ hk)
    · rw [e] at hk; cases hk; exact .inr (Nat.le_trans hs hj)
  have hlB := fun k hk => (World.ownsRow.lt h.l k hk).1
  refine ⟨⟨hg.by_.os.trans (hb.os.trans h.bel.os), hg.by_.tape.trans (hb.tape.trans h.bel.tape), hg.by_.output.trans (hb.output.trans h.bel.output), Nat.le_trans h.bel.size (Nat.le_trans hs hg.size), fun k hk => ?_⟩,
    (keep X h.row.lt (fun e => (h.dl X e).1 rfl)).trans h.row, by rw [List.length_append, List.flatMap_append]; simpa using ho, owns_of_block h.g (fun k hk => keep k (World.ownsRow.lt h.g k hk).2 (fun e => (h.dl k e).2.1 hk)), h.p.of_block (fun k hk => keep k (h.p.bltG k hk) (fun e => (h.dl k e).2.2 hk)), fun k hk => ?_, h.dg, h.dp, h.hX⟩
  · have hkW : k < W.heap.size := Nat.lt_of_lt_of_le hk h.size
    exact (keep k hkW (fun e => by have := hlB k e; omega)).trans (h.bel.block k hk)
  · rcases lies k hk with e | e
    · exact h.dl k e
    · exact ⟨by have := h.row.lt; omega, fun e' => by have := (World.ownsRow.lt h.g k e').2; omega, fun e' => by have := h.p.bltG k e'; omega⟩
theorem RefV.pushG {vg' : Value} {c : Cz} (h : RefV K B X w W vl vg vp Cl Cg Lp) (hb : Below W.heap.size W W1) (hg : Grew W1 W' vg vg') (ho : W'.ownsRow B 63 3 vg' (Cg.length + 1) (Cg.flatMap czC ++ czC c)) : RefV K B X w W' vl vg' vp Cl (Cg ++ [c]) Lp := by
  have hs := hb.size
  have keep : ∀ k, k < W.heap.size → vg.ownBlock ≠ some k → W'.heap[k]? = W.heap[k]? := fun k hk hne => (hg.block (Nat.lt_of_lt_of_le hk hs) hne).trans (hb.block k hk)
  have lies : ∀ k, vg'.ownBlock = some k → vg.ownBlock = some k ∨ W.heap.size ≤ k := fun k hk => by
    rcases hg.lies with e | ⟨j, e, hj⟩
    · exact .inl (e ▸ hk)
    · rw [e] at hk; cases hk; exact .inr (Nat.le_trans hs hj)
  have hlB := fun k hk => (World.ownsRow.lt h.g k hk).1
  refine ⟨⟨hg.by_.os.trans (hb.os.trans h.bel.os), hg.by_.tape.trans (hb.tape.trans h.bel.tape), hg.by_.output.trans (hb.output.trans h.bel.output), Nat.le_trans h.bel.size (Nat.le_trans hs hg.size), fun k hk => ?_⟩,
    (keep X h.row.lt (fun e => (h.dg X e).1 rfl)).trans h.row, owns_of_block h.l (fun k hk => keep k (World.ownsRow.lt h.l k hk).2 (fun e => (h.dl k hk).2.1 e)), by rw [List.length_append, List.flatMap_append]; simpa using ho, h.p.of_block (fun k hk => keep k (h.p.bltG k hk) (fun e => (h.dg k e).2 hk)), fun k hk => ⟨(h.dl k hk).1, fun e => ?_, (h.dl k hk).2.2⟩, fun k hk => ?_, h.dp, h.hX⟩
  · have hkW : k < W.heap.size := Nat.lt_of_lt_of_le hk h.size
    exact (keep k hkW (fun e => by have := hlB k e; omega)).trans (h.bel.block k hk)
  · rcases lies k e with e' | e'
    · exact (h.dl k hk).2.1 e'
    · have := (World.ownsRow.lt h.l k hk).2; omega
  · rcases lies k hk with e | e
    · exact h.dg k e
    · exact ⟨by have := h.row.lt; omega, fun e' => by have := h.p.bltG k e'; omega⟩
/-- A patch without bytes, appended and stored. -/
theorem RefV.pushP {vp' : Value} {a : Nat} (h : RefV K B X w W vl vg vp Cl Cg Lp) (hb : Below W.heap.size W W1) (hg : Grew W1 W' vp vp') (ho : W'.ownsRow B 54 3 vp' (Lp.length + 1) (Lp.flatMap PaV.cells ++ [.int .u64 (a : Int), .slice none 0 0, .slice none 0 0])) :
    RefV (fun _ => True) B X w (W'.setCell ⟨X, 2, none⟩ vp') vl vg vp' Cl Cg (Lp ++ [⟨a, none, 0, [], none, 0, []⟩]) := by
  have hs := hb.size
  have hXl := h.row.lt
  have hvX : vp.ownBlock ≠ some X := fun e => (h.dp X (.inl e)).2 rfl
  have keep : ∀ k, k < W.heap.size → vp.ownBlock ≠ some k → W'.heap[k]? = W.heap[k]? := fun k hk hne => (hg.block (Nat.lt_of_lt_of_le hk hs) hne).trans (hb.block k hk)
  have lies : ∀ k, vp'.ownBlock = some k → vp.ownBlock = some k ∨ W.heap.size ≤ k := fun k hk => by
    rcases hg.lies with e | ⟨j, e, hj⟩
    · exact .inl (e ▸ hk)
    · rw [e] at hk; cases hk; exact .inr (Nat.le_trans hs hj)
  have hr : RowAt W' X 28 #[.slice none 0 0, .slice none 0 0, vp] := (keep X hXl hvX).trans h.row
  have hv'X : ∀ k, vp'.ownBlock = some k → k ≠ X := fun k hk e => by
    subst e
    rcases lies k hk with e | e
    · exact hvX e
    · omega
  have set : ∀ k, k ≠ X → (W'.setCell ⟨X, 2, none⟩ vp').heap[k]? = W'.heap[k]? := fun k hk => heap_setCell_other _ _ _ _ hk
  obtain ⟨M', hM'⟩ : ∃ M' : Nat → Prop, M' = fun k => blkPa vp Lp k ∨ W.heap.size ≤ k := ⟨_, rfl⟩
  have hP : OwnPaG (fun _ => True) M' W' vp' (Lp ++ [⟨a, none, 0, [], none, 0, []⟩]) := by
    have h0 : OwnPaG (fun _ => True) (blkPa vp Lp) W vp Lp := ⟨h.p.own, h.p.e1, h.p.e2, h.p.mv, h.p.mx, h.p.self, h.p.pair, fun _ _ => trivial⟩
    refine h0.snoc (fun k hk => by rw [hM']; exact .inl hk) (fun k hk hne => keep k (h.p.bltG k hk) hne) (ownsRow_base ho (Nat.zero_le _)) (fun k hk => ?_) (fun k hk => ?_) (World.ownsRow_nil _ _ _ _) (World.ownsRow_nil _ _ _ _) (fun k hk => by cases hk) trivial
    · rw [hM']
      rcases lies k hk with e | e
      · exact ⟨.inl (.inl e), .inl e⟩
      · exact ⟨.inr e, .inr (fun hm => by have := h.p.bltG k hm; omega)⟩
    · rcases hk with hk | hk <;> cases hk
  have sub : ∀ k, blkPa vp' (Lp ++ [⟨a, none, 0, [], none, 0, []⟩]) k → blkPa vp Lp k ∨ W.heap.size ≤ k := fun k hk => by have := hP.subG k hk; rwa [hM'] at this
  refine ⟨⟨hg.by_.os.trans (hb.os.trans h.bel.os), hg.by_.tape.trans (hb.tape.trans h.bel.tape), hg.by_.output.trans (hb.output.trans h.bel.output), by simp [World.setCell]; exact Nat.le_trans h.bel.size (Nat.le_trans hs hg.size), fun k hk => ?_⟩,
    hr.same vp', owns_of_block h.l (fun k hk => (set k (h.dl k hk).1).trans (keep k (World.ownsRow.lt h.l k hk).2 (fun e => (h.dl k hk).2.2 (.inl e)))), owns_of_block h.g (fun k hk => (set k (h.dg k hk).1).trans (keep k (World.ownsRow.lt h.g k hk).2 (fun e => (h.dg k hk).2 (.inl e)))),
    hP.tightG.of_block (fun k hk => set k ?_), fun k hk => ⟨(h.dl k hk).1, (h.dl k hk).2.1, fun e => ?_⟩, fun k hk => ⟨(h.dg k hk).1, fun e => ?_⟩, fun k hk => ?_, h.hX⟩
  · have hkW : k < W.heap.size := Nat.lt_of_lt_of_le hk h.size
    rw [set k (by have := h.hX; omega)]
    exact (keep k hkW (fun e => by have := (h.dp k (.inl e)).1; omega)).trans (h.bel.block k hk)
  · rcases sub k hk with e | e
    · exact (h.dp k e).2
    · omega
  · rcases sub k e with e' | e'
    · exact (h.dl k hk).2.2 e'
    · have := (World.ownsRow.lt h.l k hk).2; omega
  · rcases sub k e with e' | e'
    · exact (h.dg k hk).2 e'
    · have := (World.ownsRow.lt h.g k hk).2; omega
  · rcases sub k hk with e | e
    · exact h.dp k e
    · exact ⟨Nat.le_trans h.size e, by omega⟩
/-- The last patch has another slice behind it: c 1 or 2. -/
theorem RefV.more {g cap c : Nat} {init : List PaV} {x x' : PaV} {u u' : Value} {l' : List UInt8} (h : RefV (fun _ => True) B X w W vl vg (.slice (some ⟨g, 0, none⟩) (init ++ [x]).length cap) Cl Cg (init ++ [x])) (hb : Below W.heap.size W W1) (hg : Grew W1 W2 u u') (hu : ∀ k, u.ownBlock = some k → x.blk k)
    (ho : OB W2 0 5 u' l') (hcc : c < 3) (hx' : x'.cells = x.cells.set c u')
    (hs1 : (u = x.s1 ∧ x'.s1 = u' ∧ x'.old = l' ∧ x'.s2 = x.s2 ∧ x'.new = x.new) ∨ (u = x.s2 ∧ x'.s2 = u' ∧ x'.new = l' ∧ x'.s1 = x.s1 ∧ x'.old = x.old)) :
    RefV (fun _ => True) B X w (W2.setCell ⟨g, init.length * 3 + c, none⟩ u') vl vg (.slice (some ⟨g, 0, none⟩) (init ++ [x]).length cap) Cl Cg (init ++ [x']) := by
  have hxm : x ∈ init ++ [x] := by simp
  have hs := hb.size
  have hgb : blkPa (.slice (some ⟨g, 0, none⟩) (init ++ [x]).length cap) (init ++ [x]) g := .inl rfl
  have hgl := h.p.bltG g hgb
  have hgx : ¬ x.blk g := fun e => (h.p.mx x hxm g e).2 rfl
  have hub : ∀ k, u.ownBlock = some k → blkPa (.slice (some ⟨g, 0, none⟩) (init ++ [x]).length cap) (init ++ [x]) k := fun k hk => .inr ⟨x, hxm, hu k hk⟩
  have keep0 : ∀ k, k < W.heap.size → u.ownBlock ≠ some k → W2.heap[k]? = W.heap[k]? := fun k hk hne => (hg.block (Nat.lt_of_lt_of_le hk hs) hne).trans (hb.block k hk)
  have lies : ∀ k, u'.ownBlock = some k → u.ownBlock = some k ∨ W.heap.size ≤ k := fun k hk => by
    rcases hg.lies with e | ⟨j, e, hj⟩
    · exact .inl (e ▸ hk)
    · rw [e] at hk; cases hk; exact .inr (Nat.le_trans hs hj)
  have hug : ∀ k, u'.ownBlock = some k → k ≠ g := fun k hk e => by
    subst e
    rcases lies k hk with e | e
    · exact hgx (hu k e)
    · omega
  obtain ⟨W', hW'⟩ : ∃ W', W' = W2.setCell ⟨g, init.length * 3 + c, none⟩ u' := ⟨_, rfl⟩
  rw [← hW']
  have other : ∀ k, k ≠ g → W'.heap[k]? = W2.heap[k]? := fun k hk => by rw [hW']; exact heap_setCell_other _ _ _ _ hk
  have hz : W'.heap.size = W2.heap.size := by rw [hW']; simp [World.setCell]
  have keep : ∀ k, k < W.heap.size → k ≠ g → u.ownBlock ≠ some k → W'.heap[k]? = W.heap[k]? := fun k hk h1 h2 => (other k h1).trans (keep0 k hk h2)
  have hfl : (init ++ [x]).flatMap PaV.cells = init.flatMap PaV.cells ++ x.cells := by rw [List.flatMap_append]; simp
  have own1 : W2.ownsRow 0 54 3 (.slice (some ⟨g, 0, none⟩) (init ++ [x]).length cap) (init ++ [x]).length (init.flatMap PaV.cells ++ x.cells) := by
    rw [← hfl]; exact owns_of_block h.p.own (fun k hk => by cases hk; exact keep0 g hgl (fun e => hgx (hu g e)))
  have own2 := own3_set paLen (c := c) (u := u') hcc own1
  rw [← hW', ← hx'] at own2
  have blk' : ∀ k, x'.blk k → u'.ownBlock = some k ∨ (x.blk k ∧ ((x'.s1.ownBlock = some k ∧ x'.s1 = x.s1) ∨ (x'.s2.ownBlock = some k ∧ x'.s2 = x.s2))) := fun k hk => by
    rcases hs1 with ⟨e1, e2, e3, e4, e5⟩ | ⟨e1, e2, e3, e4, e5⟩
    · rcases hk with hk | hk
      · exact .inl (e2 ▸ hk)
      · exact .inr ⟨.inr (e4 ▸ hk), .inr ⟨hk, e4⟩⟩
    · rcases hk with hk | hk
      · exact .inr ⟨.inl (e4 ▸ hk), .inl ⟨hk, e4⟩⟩
      · exact .inl (e2 ▸ hk)
  have oB' : OB W' 0 5 u' l' := owns_of_block ho (fun k hk => other k (hug k hk))
  have hP : OwnPaG (fun _ => True) (fun k => blkPa (.slice (some ⟨g, 0, none⟩) (init ++ [x]).length cap) (init ++ [x]) k ∨ W.heap.size ≤ k) W' (.slice (some ⟨g, 0, none⟩) (init ++ [x]).length cap) (init ++ [x']) := by
    refine h.p.last (x' := x') (fun k hk => .inl hk) (fun k hk h1 h2 => keep k (h.p.bltG k hk) h1 (fun e => h2 (hu k e))) own2 ?_ ?_ (fun k hk => ?_) ?_ trivial
    · rcases hs1 with ⟨e1, e2, e3, e4, e5⟩ | ⟨e1, e2, e3, e4, e5⟩
      · rw [e2, e3]; exact oB'
      · rw [e4, e5]
        exact owns_of_block (h.p.e1 x hxm) (fun k hk => keep k (h.p.bltG k (.inr ⟨x, hxm, .inl hk⟩)) (fun e => hgx (.inl (e ▸ hk))) (fun e => h.p.self x hxm k hk (by rw [← e1]; exact e)))
    · rcases hs1 with ⟨e1, e2, e3, e4, e5⟩ | ⟨e1, e2, e3, e4, e5⟩
      · rw [e4, e5]
        exact owns_of_block (h.p.e2 x hxm) (fun k hk => keep k (h.p.bltG k (.inr ⟨x, hxm, .inr hk⟩)) (fun e => hgx (.inr (e ▸ hk))) (fun e => h.p.self x hxm k (by rw [← e1]; exact e) hk))
      · rw [e2, e3]; exact oB'
    · rcases blk' k hk with e | ⟨e, -⟩
      · rcases lies k e with e' | e'
        · exact ⟨.inl (hub k e'), .inl (hu k e')⟩
        · exact ⟨.inr e', .inr (fun hm => by have := h.p.bltG k hm; omega)⟩
      · exact ⟨.inl (.inr ⟨x, hxm, e⟩), .inl e⟩
    · intro k hk1 hk2
      rcases hs1 with ⟨e1, e2, e3, e4, e5⟩ | ⟨e1, e2, e3, e4, e5⟩
      · rw [e2] at hk1
        rw [e4] at hk2
        rcases lies k hk1 with e | e
        · exact h.p.self x hxm k (by rw [← e1]; exact e) hk2
        · have := h.p.bltG k (.inr ⟨x, hxm, .inr hk2⟩); omega
      · rw [e4] at hk1
        rw [e2] at hk2
        rcases lies k hk2 with e | e
        · exact h.p.self x hxm k hk1 (by rw [← e1]; exact e)
        · have := h.p.bltG k (.inr ⟨x, hxm, .inl hk1⟩); omega
  have sub := hP.subG
  have hXl := h.row.lt
  have hXg : X ≠ g := fun e => (h.dp g hgb).2 e.symm
  refine ⟨⟨?_, ?_, ?_, by rw [hz]; exact Nat.le_trans h.bel.size (Nat.le_trans hs hg.size), fun k hk => ?_⟩, (keep X hXl hXg (fun e => (h.dp X (hub X e)).2 rfl)).trans h.row,
    owns_of_block h.l (fun k hk => keep k (World.ownsRow.lt h.l k hk).2 (fun e => (h.dl k hk).2.2 (e ▸ hgb)) (fun e => (h.dl k hk).2.2 (hub k e))), owns_of_block h.g (fun k hk => keep k (World.ownsRow.lt h.g k hk).2 (fun e => (h.dg k hk).2 (e ▸ hgb)) (fun e => (h.dg k hk).2 (hub k e))),
    hP.tightG, fun k hk => ⟨(h.dl k hk).1, (h.dl k hk).2.1, fun e => ?_⟩, fun k hk => ⟨(h.dg k hk).1, fun e => ?_⟩, fun k hk => ?_, h.hX⟩
  · rw [hW']; exact hg.by_.os.trans (hb.os.trans h.bel.os)
  · rw [hW']; exact hg.by_.tape.trans (hb.tape.trans h.bel.tape)
  · rw [hW']; exact hg.by_.output.trans (hb.output.trans h.bel.output)
  · have hkW : k < W.heap.size := Nat.lt_of_lt_of_le hk h.size
    exact (keep k hkW (fun e => by have := (h.dp g hgb).1; omega) (fun e => by have := (h.dp k (hub k e)).1; omega)).trans (h.bel.block k hk)
  · rcases sub k e with e' | e'
    · exact (h.dl k hk).2.2 e'
    · have := (World.ownsRow.lt h.l k hk).2; omega
  · rcases sub k e with e' | e'
    · exact (h.dg k hk).2 e'
    · have := (World.ownsRow.lt h.g k hk).2; omega
  · rcases sub k hk with e | e
    · exact h.dp k e
    · exact ⟨Nat.le_trans h.size e, by omega⟩
end
end Go.Proofs.Ythlnjfnjmjdohaa
