/- Pieces of the call's own, whatever holds of each: one more; the last one another one. -/
import Derived.Test.YthlnjfnjmjdohaaZBpN
namespace Go.Proofs.Ythlnjfnjmjdohaa
set_option linter.unusedSimpArgs false
set_option linter.unusedVariables false
open Go.RowKit

/-- The last one is another one. -/
theorem OwnPzG.last {K : PzV → Prop} {M M' : Nat → Prop} {w W' : World} {g cap : Nat} {init : List PzV} {x x' : PzV} (h : OwnPzG K M w (.slice (some ⟨g, 0, none⟩) (init ++ [x]).length cap) (init ++ [x])) (hM : ∀ k, M k → M' k)
    (keep : ∀ k, M k → k ≠ g → x.sl.ownBlock ≠ some k → W'.heap[k]? = w.heap[k]?) (own : W'.ownsRow 0 45 3 (.slice (some ⟨g, 0, none⟩) (init ++ [x]).length cap) (init ++ [x]).length (init.flatMap PzV.cells ++ x'.cells))
    (o1 : OB W' 0 5 x'.sl x'.bytes) (lies : ∀ k, x'.sl.ownBlock = some k → M' k ∧ (x.sl.ownBlock = some k ∨ ¬ M k)) (ok : K x') : OwnPzG K M' W' (.slice (some ⟨g, 0, none⟩) (init ++ [x]).length cap) (init ++ [x']) := by
  have hxm : x ∈ init ++ [x] := by simp
  have hp := List.pairwise_append.1 h.pair
  have yk : ∀ y ∈ init, ∀ k, y.sl.ownBlock = some k → W'.heap[k]? = w.heap[k]? := fun y hy k hk => by
    have hm := h.mx y (List.mem_append_left _ hy) k hk
    exact keep k hm.1 (fun e => hm.2 (by rw [e]; rfl)) (hp.2.2 y hy x (by simp) k hk)
  have hfl : (init ++ [x']).flatMap PzV.cells = init.flatMap PzV.cells ++ x'.cells := by rw [List.flatMap_append]; simp
  have hll : (init ++ [x']).length = (init ++ [x]).length := by rw [List.length_append, List.length_append]; rfl
  refine ⟨by rw [hll, hfl]; exact own, ?_, fun k hk => hM k (h.mv k hk), ?_, ?_, ?_⟩
  · intro y hy
    rcases List.mem_append.1 hy with hy | hy
    · exact owns_of_block (h.each y (List.mem_append_left _ hy)) (fun k hk => yk y hy k hk)
    · rw [List.mem_singleton] at hy; subst hy; exact o1
  · intro y hy k hk
    rcases List.mem_append.1 hy with hy | hy
    · have := h.mx y (List.mem_append_left _ hy) k hk
      exact ⟨hM k this.1, this.2⟩
    · rw [List.mem_singleton] at hy; subst hy
      obtain ⟨l1, l2⟩ := lies k hk
      refine ⟨l1, ?_⟩
      rcases l2 with l2 | l2
      · exact (h.mx x hxm k l2).2
      · exact fun e => l2 (h.mv k e)
  · refine List.pairwise_append.2 ⟨hp.1, List.pairwise_singleton _ _, fun y hy z hz k hk e => ?_⟩
    rw [List.mem_singleton] at hz; subst hz
    rcases (lies k e).2 with l2 | l2
    · exact hp.2.2 y hy x (by simp) k hk l2
    · exact l2 (h.mx y (List.mem_append_left _ hy) k hk).1
  · intro y hy
    rcases List.mem_append.1 hy with hy | hy
    · exact h.ok y (List.mem_append_left _ hy)
    · rw [List.mem_singleton] at hy; subst hy; exact ok
/-- One more. -/
theorem OwnPzG.snoc {K : PzV → Prop} {M M' : Nat → Prop} {w W' : World} {v v' : Value} {L : List PzV} {y : PzV} (h : OwnPzG K M w v L) (hM : ∀ k, M k → M' k) (keep : ∀ k, M k → v.ownBlock ≠ some k → W'.heap[k]? = w.heap[k]?)
    (own : W'.ownsRow 0 45 3 v' (L.length + 1) (L.flatMap PzV.cells ++ y.cells)) (lv : ∀ k, v'.ownBlock = some k → M' k ∧ (v.ownBlock = some k ∨ ¬ M k)) (ly : ∀ k, y.sl.ownBlock = some k → M' k ∧ (∀ x ∈ L, x.sl.ownBlock ≠ some k) ∧ v'.ownBlock ≠ some k)
    (o1 : OB W' 0 5 y.sl y.bytes) (ok : K y) : OwnPzG K M' W' v' (L ++ [y]) := by
  have hfl : (L ++ [y]).flatMap PzV.cells = L.flatMap PzV.cells ++ y.cells := by rw [List.flatMap_append]; simp
  refine ⟨by rw [hfl, List.length_append]; exact own, ?_, fun k hk => (lv k hk).1, ?_, ?_, ?_⟩
  · intro x hx
    rcases List.mem_append.1 hx with hx | hx
    · exact owns_of_block (h.each x hx) (fun k hk => keep k (h.mx x hx k hk).1 (h.mx x hx k hk).2)
    · rw [List.mem_singleton] at hx; subst hx; exact o1
  · intro x hx k hk
    rcases List.mem_append.1 hx with hx | hx
    · have hm := h.mx x hx k hk
      refine ⟨hM k hm.1, fun e => ?_⟩
      rcases (lv k e).2 with l | l
      · exact hm.2 l
      · exact l hm.1
    · rw [List.mem_singleton] at hx; subst hx
      exact ⟨(ly k hk).1, (ly k hk).2.2⟩
  · refine List.pairwise_append.2 ⟨h.pair, List.pairwise_singleton _ _, fun x hx z hz k hk e => ?_⟩
    rw [List.mem_singleton] at hz; subst hz
    exact (ly k e).2.1 x hx hk
  · intro x hx
    rcases List.mem_append.1 hx with hx | hx
    · exact h.ok x hx
    · rw [List.mem_singleton] at hx; subst hx; exact ok
theorem OwnPzG.any {K K' : PzV → Prop} {M : Nat → Prop} {W : World} {v : Value} {L : List PzV} (h : OwnPzG K M W v L) (hk : ∀ x ∈ L, K' x) : OwnPzG K' M W v L := ⟨h.own, h.each, h.mv, h.mx, h.pair, hk⟩

/-- All that is new, whatever holds of each. -/
structure NewAny (w W : World) (v : Value) (L : List PzV) : Prop where
  bel : Below w.heap.size w W
  own : OwnPzG (fun _ => True) (New w W) W v L
theorem NewAny.below {w W W' : World} {v : Value} {L : List PzV} (h : NewAny w W v L) (hb : Below W.heap.size W W') : NewAny w W' v L :=
  ⟨h.bel.trans (hb.mono h.bel.size), (h.own.below hb).widen (fun k hk => ⟨hk.1, Nat.lt_of_lt_of_le hk.2 hb.size⟩)⟩
/-- Behind the append of a piece without bytes. -/
theorem NewAny.push {w W W1 W' : World} {v v' : Value} {L : List PzV} (h : NewAny w W v L) (hb : Below W.heap.size W W1) (hg : Grew W1 W' v v') (a : Nat) (q : Int) (ho : W'.ownsRow w.heap.size 45 3 v' (L.length + 1) (L.flatMap PzV.cells ++ [.int .u64 (a : Int), .int .i64 q, .slice none 0 0])) :
    NewAny w W' v' (L ++ [⟨a, q, none, 0, []⟩]) := by
  have hv : ∀ k, v.ownBlock = some k → w.heap.size ≤ k ∧ k < W.heap.size := fun k hk => h.own.mv k hk
  have hlt := h.own.lt
  have hs := hb.size
  have hs2 := hg.size
  have lies : ∀ k, v'.ownBlock = some k → v.ownBlock = some k ∨ W.heap.size ≤ k := fun k hk => by
    rcases hg.lies with e | ⟨j, e, hj⟩
    · exact .inl (e ▸ hk)
    · rw [e] at hk; cases hk; exact .inr (Nat.le_trans hs hj)
  refine ⟨⟨hg.by_.os.trans (hb.os.trans h.bel.os), hg.by_.tape.trans (hb.tape.trans h.bel.tape), hg.by_.output.trans (hb.output.trans h.bel.output), Nat.le_trans h.bel.size (Nat.le_trans hs hs2), fun k hk => ?_⟩, ?_⟩
  · have hkW := Nat.lt_of_lt_of_le hk h.bel.size
    exact (hg.block (Nat.lt_of_lt_of_le hkW hs) (fun e => by have := (hv k e).1; omega)).trans ((hb.block k hkW).trans (h.bel.block k hk))
  · refine h.own.snoc (fun k hk => ⟨hk.1, by have := hk.2; omega⟩) (fun k hk hne => (hg.block (Nat.lt_of_lt_of_le hk.2 hs) hne).trans (hb.block k hk.2)) (ownsRow_base ho (Nat.zero_le _)) (fun k hk => ?_) (fun k hk => by cases hk) (World.ownsRow_nil _ _ _ _) trivial
    have hl := (World.ownsRow.lt ho k hk).2
    rcases lies k hk with e | e
    · exact ⟨⟨(hv k e).1, hl⟩, .inl e⟩
    · exact ⟨⟨Nat.le_trans h.bel.size e, hl⟩, .inr (fun hm => by have := hm.2; omega)⟩
/-- Behind the append of a byte to the last one, and the store. -/
theorem NewAny.more {w W W1 W2 : World} {g cap : Nat} {init : List PzV} {x : PzV} {b : UInt8} {p : Option Addr} {m c : Nat} (h : NewAny w W (.slice (some ⟨g, 0, none⟩) (init ++ [x]).length cap) (init ++ [x])) (hb : Below W.heap.size W W1) (hg : Grew W1 W2 x.sl (.slice p m c)) (hm : m = (x.bytes ++ [b]).length)
    (ho : OB W2 0 5 (.slice p m c) (x.bytes ++ [b])) : NewAny w (W2.setCell ⟨g, init.length * 3 + 2, none⟩ (.slice p m c)) (.slice (some ⟨g, 0, none⟩) (init ++ [x]).length cap) (init ++ [⟨x.at_, x.prot, p, c, x.bytes ++ [b]⟩]) := by
  subst hm
  have hxm : x ∈ init ++ [x] := by simp
  have mg : New w W g := h.own.mv g rfl
  have hgx : x.sl.ownBlock ≠ some g := fun e => (h.own.mx x hxm g e).2 rfl
  have hxv : ∀ k, x.sl.ownBlock = some k → New w W k := fun k hk => (h.own.mx x hxm k hk).1
  have hs := hb.size
  have hs2 := hg.size
  have hz : (W2.setCell ⟨g, init.length * 3 + 2, none⟩ (.slice p (x.bytes ++ [b]).length c)).heap.size = W2.heap.size := by simp [World.setCell]
  obtain ⟨W', hW'⟩ : ∃ W', W' = W2.setCell ⟨g, init.length * 3 + 2, none⟩ (.slice p (x.bytes ++ [b]).length c) := ⟨_, rfl⟩
  rw [← hW'] at hz ⊢
  have other : ∀ k, k ≠ g → W'.heap[k]? = W2.heap[k]? := fun k hk => by rw [hW']; exact heap_setCell_other _ _ _ _ hk
  have keep : ∀ k, k < W.heap.size → k ≠ g → x.sl.ownBlock ≠ some k → W'.heap[k]? = W.heap[k]? := fun k hk h1 h2 => (other k h1).trans ((hg.block (Nat.lt_of_lt_of_le hk hs) h2).trans (hb.block k hk))
  have lies : ∀ k, (Value.slice p (x.bytes ++ [b]).length c).ownBlock = some k → x.sl.ownBlock = some k ∨ W.heap.size ≤ k := fun k hk => by
    rcases hg.lies with e | ⟨j, e, hj⟩
    · exact .inl (e ▸ hk)
    · rw [e] at hk; cases hk; exact .inr (Nat.le_trans hs hj)
  have hfl : (init ++ [x]).flatMap PzV.cells = init.flatMap PzV.cells ++ x.cells := by rw [List.flatMap_append]; simp
  have own1 : W2.ownsRow 0 45 3 (.slice (some ⟨g, 0, none⟩) (init ++ [x]).length cap) (init ++ [x]).length (init.flatMap PzV.cells ++ x.cells) := by
    rw [← hfl]; exact owns_of_block h.own.own (fun k hk => by cases hk; exact (hg.block (Nat.lt_of_lt_of_le mg.2 hs) hgx).trans (hb.block g mg.2))
  have own2 := own3_set pzLen (c := 2) (u := .slice p (x.bytes ++ [b]).length c) (by decide) own1
  rw [← hW'] at own2
  refine ⟨⟨?_, ?_, ?_, by rw [hz]; exact Nat.le_trans h.bel.size (Nat.le_trans hs hs2), fun k hk => ?_⟩, ?_⟩
  · rw [hW']; exact hg.by_.os.trans (hb.os.trans h.bel.os)
  · rw [hW']; exact hg.by_.tape.trans (hb.tape.trans h.bel.tape)
  · rw [hW']; exact hg.by_.output.trans (hb.output.trans h.bel.output)
  · exact (keep k (Nat.lt_of_lt_of_le hk h.bel.size) (fun e => by have := mg.1; omega) (fun e => by have := (hxv k e).1; omega)).trans (h.bel.block k hk)
  · refine h.own.last (x' := ⟨x.at_, x.prot, p, c, x.bytes ++ [b]⟩) (fun k hk => ⟨hk.1, by rw [hz]; have := hk.2; omega⟩) (fun k hk h1 h2 => keep k hk.2 h1 h2) own2 (owns_of_block ho (fun k hk => other k (fun e => ?_))) (fun k hk => ?_) trivial
    · rcases lies k hk with e' | e'
      · exact hgx (e ▸ e')
      · have := mg.2; omega
    · have hl : k < W2.heap.size := ho.lt k hk
      rcases lies k hk with e | e
      · exact ⟨⟨(hxv k e).1, by rw [hz]; exact hl⟩, .inl e⟩
      · exact ⟨⟨Nat.le_trans h.bel.size e, by rw [hz]; exact hl⟩, .inr (fun hm => by have := hm.2; omega)⟩
end Go.Proofs.Ythlnjfnjmjdohaa
