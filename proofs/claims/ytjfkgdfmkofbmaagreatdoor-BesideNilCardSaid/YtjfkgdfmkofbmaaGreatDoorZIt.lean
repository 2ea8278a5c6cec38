/- A range over a function: what the two sides owe one another, where each keeps state in cells: the iterator's blocks are named. No program in sight. -/
import Derived.RangeFuncNested
import Derived.RangeFuncBound
import Derived.RangeFuncCalls
import Derived.RangeFuncLeaves
import Derived.RangeFuncWrites
import Derived.Shelf.Abstract
import Derived.Shelf.RegionOpen
import Derived.OwnWalkIn
import Derived.TacticsInMore
import Derived.LoopNIn
import Derived.LoopIn
import Derived.Test.YtjfkgdfmkofbmaaGreatDoorZRow
namespace Go.Proofs.YtjfkgdfmkofbmaaGreatDoor
set_option linter.unusedSimpArgs false
set_option linter.unusedVariables false
open Go.RowKit

/-- A step of the iterator, whose blocks are M ahead of it and M' behind it. -/
structure Its (M M' : Nat → Prop) (W W' : World) : Prop where
  os : W'.os = W.os
  tape : W'.tape = W.tape
  output : W'.output = W.output
  size : W.heap.size ≤ W'.heap.size
  keep : ∀ k, k < W.heap.size → ¬ M k → W'.heap[k]? = W.heap[k]?
  sub : ∀ k, M k → M' k
  new : ∀ k, M' k → M k ∨ W.heap.size ≤ k
  lt : (∀ k, M k → k < W.heap.size) → ∀ k, M' k → k < W'.heap.size

/-- What the round promises the iterator: its blocks lie as they lay. -/
structure Kept (M : Nat → Prop) (W W' : World) : Prop where
  os : W'.os = W.os
  tape : W'.tape = W.tape
  output : W'.output = W.output
  size : W.heap.size ≤ W'.heap.size
  keep : ∀ k, k < W.heap.size → M k → W'.heap[k]? = W.heap[k]?

def Abide {β : Type} (J : β → (Nat → Prop) → World → Prop) : Prop := ∀ s M M' W W', J s M W → Its M M' W W' → J s M' W'

theorem Its.refl (M : Nat → Prop) (W : World) : Its M M W W := ⟨rfl, rfl, rfl, Nat.le_refl _, fun _ _ _ => rfl, fun _ h => h, fun _ h => .inl h, fun h => h⟩
theorem Its.trans {M M1 M2 : Nat → Prop} {A B C : World} (h : Its M M1 A B) (g : Its M1 M2 B C) : Its M M2 A C :=
  ⟨g.os.trans h.os, g.tape.trans h.tape, g.output.trans h.output, Nat.le_trans h.size g.size,
    fun k hk hn => (g.keep k (Nat.lt_of_lt_of_le hk h.size) (fun h1 => by rcases h.new k h1 with h2 | h2; exact hn h2; omega)).trans (h.keep k hk hn),
    fun k hk => g.sub k (h.sub k hk),
    fun k hk => by
      rcases g.new k hk with h1 | h1
      · exact h.new k h1
      · exact .inr (Nat.le_trans h.size h1),
    fun hlt => g.lt (h.lt hlt)⟩

/-- New blocks that the iterator does not need. -/
theorem Its.of_below (M : Nat → Prop) {W W' : World} (h : Below W.heap.size W W') : Its M M W W' :=
  ⟨h.os, h.tape, h.output, h.size, fun k hk _ => h.block k hk, fun _ h => h, fun _ h => .inl h, fun hl k hk => Nat.lt_of_lt_of_le (hl k hk) h.size⟩
/-- New blocks that are its own from now on. -/
theorem Its.of_below_new (M : Nat → Prop) {W W' : World} (h : Below W.heap.size W W') : Its M (fun k => M k ∨ (W.heap.size ≤ k ∧ k < W'.heap.size)) W W' :=
  ⟨h.os, h.tape, h.output, h.size, fun k hk _ => h.block k hk, fun _ h => .inl h, fun _ hk => hk.imp id And.left, fun hl k hk => hk.elim (fun h1 => Nat.lt_of_lt_of_le (hl k h1) h.size) And.right⟩
/-- One of its blocks is written; new ones are its own. -/
theorem Its.of_grown {M : Nat → Prop} {W W' : World} {r : Option Nat} (h : W.grownBy W' r) (hr : ∀ k, r = some k → M k) : Its M (fun k => M k ∨ (W.heap.size ≤ k ∧ k < W'.heap.size)) W W' :=
  ⟨h.os, h.tape, h.output, h.size, fun k hk hn => h.block k hk (fun e => hn (hr k e.symm)), fun _ h => .inl h, fun _ hk => hk.imp id And.left, fun hl k hk => hk.elim (fun h1 => Nat.lt_of_lt_of_le (hl k h1) h.size) And.right⟩
theorem Its.set {M : Nat → Prop} {W : World} {a : Addr} (v : Value) (hr : M a.block) : Its M M W (W.setCell a v) :=
  ⟨rfl, rfl, rfl, by simp [World.setCell], fun k hk hn => heap_setCell_other W a k v (fun e => hn (by rw [e]; exact hr)), fun _ h => h, fun _ h => .inl h, fun hl k hk => by simpa [World.setCell] using hl k hk⟩

theorem Kept.refl (M : Nat → Prop) (W : World) : Kept M W W := ⟨rfl, rfl, rfl, Nat.le_refl _, fun _ _ _ => rfl⟩
theorem Kept.trans {M : Nat → Prop} {A B C : World} (h : Kept M A B) (g : Kept M B C) : Kept M A C :=
  ⟨g.os.trans h.os, g.tape.trans h.tape, g.output.trans h.output, Nat.le_trans h.size g.size, fun k hk hm => (g.keep k (Nat.lt_of_lt_of_le hk h.size) hm).trans (h.keep k hk hm)⟩
theorem Kept.of_below {M : Nat → Prop} {W W' : World} (h : Below W.heap.size W W') : Kept M W W' := ⟨h.os, h.tape, h.output, h.size, fun k hk _ => h.block k hk⟩
theorem Kept.of_grown {M : Nat → Prop} {W W' : World} {r : Option Nat} (h : W.grownBy W' r) (hr : ∀ k, r = some k → ¬ M k) : Kept M W W' :=
  ⟨h.os, h.tape, h.output, h.size, fun k hk hm => h.block k hk (fun e => hr k e.symm hm)⟩
theorem Kept.set {M : Nat → Prop} {W : World} {a : Addr} (v : Value) (hr : ¬ M a.block) : Kept M W (W.setCell a v) :=
  ⟨rfl, rfl, rfl, by simp [World.setCell], fun k hk hm => heap_setCell_other W a k v (fun e => hr (by rw [← e]; exact hm))⟩
theorem Kept.put {M : Nat → Prop} {W : World} {l : Nat} (o : Obj) (hr : ¬ M l) : Kept M W (W.putObj l o) :=
  ⟨rfl, rfl, rfl, by simp, fun k hk hm => World.putObj_heap_other (fun e => hr (e ▸ hm))⟩

/-- The iterator's blocks, less those that it hands over with x. -/
def rel {α : Type} (R : α → Nat → Prop) (x : α) (M : Nat → Prop) : Nat → Prop := fun k => M k ∧ ¬ R x k

theorem Kept.rel {α : Type} {R : α → Nat → Prop} {x : α} {M : Nat → Prop} {W W' : World} (h : Kept M W W') : Kept (rel R x M) W W' := ⟨h.os, h.tape, h.output, h.size, fun k hk hm => h.keep k hk hm.1⟩

/-- The contract of an iterator: R: the blocks that are handed over with an element; T: what stands when an element comes; E: what stands when all have come; Ep: when a round has said 'no more'; M0: its blocks when it is called; A: what it asks of the world. -/
def SeqM {α : Type} (n : Nat) (P : Program) (g : Nat) (lb : Array Value) (encs : α → Array Value) (R : α → Nat → Prop) (T : List α → α → (Nat → Prop) → World → Prop) (E Ep : List α → World → Prop) (N : Nat) (M0 : Nat → Prop) (A : World → Prop) : Prop :=
  ∀ (l : Nat) (J Jx : List α → (Nat → Prop) → World → Prop) (W : World), A W → Abide J → Abide Jx →
    (∀ pre x M W1, J pre M W1 → T pre x M W1 → pre.length < N → YieldAt Fence.wide (n - 1) P l (encs x) W1 fun e W' =>
      (e = .returned (.bool true) ∧ J (pre ++ [x]) (rel R x M) W' ∧ Kept (rel R x M) W1 W') ∨ (e = .returned (.bool false) ∧ Jx (pre ++ [x]) (rel R x M) W' ∧ Kept (rel R x M) W1 W')) →
    J [] M0 W →
    CallsIn Fence.wide n P g (#[.func (.yield l) #[] #[]] ++ lb) W fun e W' => (∃ v, e = .returned v) ∧ ((∃ xs M, E xs W' ∧ J xs M W') ∨ (∃ pre M, Ep pre W' ∧ Jx pre M W'))

/-- How the body of a round may be left. -/
def PostM {α : Type} (B : Nat) (M : Nat → Prop) (I : List α → (Nat → Prop) → World → Prop) (Ix : Code → List α → (Nat → Prop) → World → Prop) (xs : List α) (W : World) : Exit → Act → World → Prop
  | .normal, _, W' => KeepsFrom B W W' ∧ Kept M W W' ∧ I xs M W'
  | .ret, _, W' => KeepsFrom B W W' ∧ Kept M W W' ∧ Ix .ret xs M W'
  | .exit id, _, W' => KeepsFrom B W W' ∧ Kept M W W' ∧ Ix (.exit id) xs M W'
  | .goto t, _, W' => KeepsFrom B W W' ∧ Kept M W W' ∧ Ix (.goto t) xs M W'
  | .panic _, _, _ => False
  | .outgrown, _, _ => False

/-- What abides the turn of a block from B on that holds no cells. -/
def Turn {β : Type} (B : Nat) (I : β → World → Prop) : Prop := ∀ s W l o o', I s W → B ≤ l → W.heap[l]? = some o → o.isCells = false → I s (W.putObj l o')

variable {P : Program}

theorem wpIn_rangeM {α : Type} {g : Operand} {ps : Array Tmp} {assign body : Code} {Q : Exit → Act → World → Prop} {a : Act} {w : World} (n : Nat)
    {gf : Nat} {lb : Array Value} (hg : a.eval g = .func (.func gf) #[] lb) (eg : ∀ args w, (callFunc gf args).run P w = .ok (.enter gf args) w)
    {encs : α → Array Value} {R : α → Nat → Prop} {T : List α → α → (Nat → Prop) → World → Prop} {E Ep : List α → World → Prop} {N : Nat} {M0 : Nat → Prop} {A : World → Prop} (hseq : SeqM (n - 1) P gf lb encs R T E Ep N M0 A)
    (hA : A w) (hA2 : ∀ W o, A W → A (W.alloc o)) (hM0 : ∀ k, M0 k → k < w.heap.size)
    (hE : Turn w.heap.size E) (hEp : Turn w.heap.size Ep) (hps : ∀ x, (encs x).size = ps.size)
    (I : List α → (Nat → Prop) → World → Prop) (Ix : Code → List α → (Nat → Prop) → World → Prop) (Ax : List α → α → (Nat → Prop) → Act → World → Prop)
    (hI : Abide I) (hIx : ∀ c, Abide (Ix c)) (hI2 : Turn w.heap.size (fun (s : List α × (Nat → Prop)) W => I s.1 s.2 W)) (hIx2 : ∀ c, Turn w.heap.size (fun (s : List α × (Nat → Prop)) W => Ix c s.1 s.2 W))
    (hAx : Turn w.heap.size (fun (s : List α × α × (Nat → Prop) × Act) W => Ax s.1 s.2.1 s.2.2.1 s.2.2.2 W)) (h0 : I [] M0 w)
    (hassign : ∀ (l : Nat) (pre : List α) (x : α) (M : Nat → Prop) (W : World) (K : Act → World → Prop), I pre M W → T pre x M W → pre.length < N → (∀ k, M k → k < W.heap.size) → w.heap.size ≤ l → l < W.heap.size →
      (∀ a₁ W1, KeepsFrom w.heap.size W W1 → Kept M W W1 → I pre M W1 → Ax pre x M a₁ W1 → K a₁ W1) →
      assign.wpIn (Fence.wide.inRound l) (n - 1 - 1) P (Exit.then K (fun _ _ _ => False)) { tmps := (ps.zip (encs x)).foldl (fun t (p, v) => t.setIfInBounds p v) a.tmps, defers := [] } W)
    (hbody : ∀ (l : Nat) (pre : List α) (x : α) (M : Nat → Prop) (a₁ : Act) (W : World), I pre M W → Ax pre x M a₁ W → pre.length < N → (∀ k, M k → k < W.heap.size) → w.heap.size ≤ l → l < W.heap.size →
      body.wpIn (Fence.wide.inRound l) (n - 1 - 1) P (PostM w.heap.size (rel R x M) I Ix (pre ++ [x]) W) a₁ W)
    (hdone : ∀ (D : Nat) (xs : List α) (M : Nat → Prop) (W : World), w.heap.size ≤ D → E xs W → I xs M W → W.heap[D]? = some (.deferred (some [])) → Q .normal { a with defers := { target := .collected D, args := #[] } :: a.defers } W)
    (hstop : ∀ (D : Nat) (c : Code) (pre : List α) (M : Nat → Prop) (W : World), w.heap.size ≤ D → Ep pre W → Ix c pre M W → W.heap[D]? = some (.deferred (some [])) → c.wpIn Fence.wide n P Q { a with defers := { target := .collected D, args := #[] } :: a.defers } W) :
    (Code.rangeFunc g ps assign body).wpIn Fence.wide n P Q a w := by
  refine wpIn_rangeFunc ?_
  intro fn hfn
  -- the law's two blocks: D, the record's R
  obtain ⟨D, hD⟩ : ∃ D, D = w.heap.size := ⟨_, rfl⟩
  obtain ⟨rec, hrec⟩ : ∃ rec : LoopState → Option Code → Loop, rec = fun st pe => { state := st, pending := pe, fn, tmps := a.tmps, params := ps, assign, body, defers := D } := ⟨_, rfl⟩
  obtain ⟨V, hV⟩ : ∃ V, V = (w.alloc (.deferred (some []))).alloc (.loop (rec .ready none)) := ⟨_, rfl⟩
  have hVb : Below w.heap.size w V := by rw [hV]; exact ((Below.refl _ w).alloc (Nat.le_refl _) _).alloc (by simp) _
  have hVs : V.heap.size = D + 2 := by rw [hV, hD]; simp
  have hVl : V.heap[D + 1]? = some (.loop (rec .ready none)) := by
    rw [hV, hD]; have := World.alloc_heap_new (w.alloc (.deferred (some []))) (.loop (rec .ready none)); rwa [World.size_alloc] at this
  have hVd : V.heap[D]? = some (.deferred (some [])) := by
    rw [hV, hD]; exact (Below.heap_alloc _ _ _ (by simp)).trans (World.alloc_heap_new w _)
  have hVA : A V := by rw [hV]; exact hA2 _ _ (hA2 _ _ hA)
  have hVI : I [] M0 V := hI _ _ _ _ _ h0 (Its.of_below M0 hVb)
  have hround : Fence.wide.round = none := rfl
  refine ⟨D + 1, [{ target := .collected D, args := #[] }], V, { target := .fn (.func gf) lb, args := #[.func (.yield (D + 1)) #[] #[]] }, V, gf, #[.func (.yield (D + 1)) #[] #[]] ++ lb, V, ?_, ?_, fun _ _ => trivial, ?_, fun h => by simp [Fence.wide] at h, ?_⟩
  · rw [hround, hV, hrec, hD]; exact run_enterLoop_outer _ _ _ _ _
  · simp only [resolve, hg]
    simp [go_sem]
  · simp [invoke, go_sem, eg]
  -- what the law adds to the caller's invariant
  obtain ⟨Bk, hBk⟩ : ∃ Bk : LoopState → Option Code → (Nat → Prop) → World → Prop, Bk = fun st pe M W => W.heap[D + 1]? = some (.loop (rec st pe)) ∧ W.heap[D]? = some (.deferred (some [])) ∧ ¬ M (D + 1) ∧ ¬ M D ∧ ∀ k, M k → k < W.heap.size := ⟨_, rfl⟩
  have bkStep : ∀ st pe M M' W W', Bk st pe M W → Its M M' W W' → Bk st pe M' W' := by
    intro st pe M M' W W' h g
    rw [hBk] at h ⊢
    obtain ⟨h1, h2, h3, h4, h5⟩ := h
    have l1 : D + 1 < W.heap.size := (Array.getElem?_eq_some_iff.1 h1).1
    exact ⟨(g.keep _ l1 h3).trans h1, (g.keep _ (by omega) h4).trans h2, fun h => by rcases g.new _ h with h | h; exact h3 h; omega, fun h => by rcases g.new _ h with h | h; exact h4 h; omega, g.lt h5⟩
  have hJ : Abide (fun pre M W => I pre M W ∧ Bk .ready none M W) := fun s M M' W W' h g => ⟨hI s M M' W W' h.1 g, bkStep _ _ _ _ _ _ h.2 g⟩
  have hJx : Abide (fun pre M W => ∃ c, Ix c pre M W ∧ Bk .done (some c) M W) := fun s M M' W W' h g => by
    obtain ⟨c, h1, h2⟩ := h
    exact ⟨c, hIx c s M M' W W' h1 g, bkStep _ _ _ _ _ _ h2 g⟩
  refine (hseq (D + 1) _ _ V hVA hJ hJx ?_ ⟨hVI, ?_⟩).mono ?_
  · -- a round
    rintro pre x M W ⟨hi, hbk⟩ ht hlen
    rw [hBk] at hbk
    obtain ⟨hl, hd, hm1, hm0, hml⟩ := hbk
    have hlt : D + 1 < W.heap.size := (Array.getElem?_eq_some_iff.1 hl).1
    have hy := run_yield (P := P) (args := encs x) hl (by rw [hrec]; exact hps x)
    rw [hrec] at hy
    refine ⟨fn, _, assign, body, hy, roundIn_of_wpIn hfn (hassign (D + 1) pre x M W _ hi ht hlen hml (by omega) hlt ?_)⟩
    intro a₁ W1 hk1 hkm1 hi1 hax1
    have hl1 := hk1.same (D + 1) _ (by omega) hl rfl
    have hd1 := hk1.same D _ (by omega) hd rfl
    have hlt1 : D + 1 < W1.heap.size := (Array.getElem?_eq_some_iff.1 hl1).1
    refine ⟨_, run_beginRound hl1 (by rw [hrec]), ?_⟩
    obtain ⟨W2, hW2⟩ : ∃ W2, W2 = W1.putObj (D + 1) (.loop { rec .ready none with state := .busy }) := ⟨_, rfl⟩
    rw [← hW2]
    have hl2 : W2.heap[D + 1]? = some (.loop { rec .ready none with state := .busy }) := by rw [hW2]; exact World.putObj_heap_same hlt1
    have hd2 : W2.heap[D]? = some (.deferred (some [])) := by rw [hW2]; exact (World.putObj_heap_other (by omega)).trans hd1
    have hi2 : I pre M W2 := by rw [hW2]; exact hI2 (pre, M) W1 _ _ _ hi1 (by omega) hl1 rfl
    have hax2 : Ax pre x M a₁ W2 := by rw [hW2]; exact hAx (pre, x, M, a₁) W1 _ _ _ hax1 (by omega) hl1 rfl
    have hkm2 : Kept M W W2 := by rw [hW2]; exact hkm1.trans (Kept.put _ hm1)
    have hml2 : ∀ k, M k → k < W2.heap.size := fun k hk => Nat.lt_of_lt_of_le (hml k hk) hkm2.size
    refine wpIn_mono (hbody (D + 1) pre x M a₁ W2 hi2 hax2 hlen hml2 (by omega) (by rw [hW2]; simpa using hlt1)) ?_
    have hr1 : ¬ rel R x M (D + 1) := fun h => hm1 h.1
    have hr0 : ¬ rel R x M D := fun h => hm0 h.1
    have fin : ∀ (jump : Option Code) (W3 : World), KeepsFrom w.heap.size W2 W3 → Kept (rel R x M) W2 W3 → ∃ W4, (Instr.endRound (D + 1) jump).run P W3 = .ok (.bool jump.isNone) W4 ∧ W4 = W3.putObj (D + 1) (.loop (rec (if jump.isNone then .ready else .done) jump)) ∧
        W3.heap[D + 1]? = some (.loop { rec .ready none with state := .busy }) ∧ Bk (if jump.isNone then .ready else .done) jump (rel R x M) W4 ∧ Kept (rel R x M) W W4 := by
      intro jump W3 hk3 hm3
      have hl3 := hk3.same (D + 1) _ (by omega) hl2 rfl
      have hd3 := hk3.same D _ (by omega) hd2 rfl
      have hlt3 : D + 1 < W3.heap.size := (Array.getElem?_eq_some_iff.1 hl3).1
      have hr := run_endRound (P := P) jump hl3
      have hkk : Kept (rel R x M) W (W3.putObj (D + 1) (.loop (rec (if jump.isNone then .ready else .done) jump))) := (hkm2.rel.trans hm3).trans (Kept.put _ hr1)
      refine ⟨W3.putObj (D + 1) (.loop (rec (if jump.isNone then .ready else .done) jump)), ?_, rfl, hl3, ?_, hkk⟩
      · rw [hrec] at hr ⊢; exact hr
      · rw [hBk]
        exact ⟨World.putObj_heap_same hlt3, (World.putObj_heap_other (by omega)).trans hd3, hr1, hr0, fun k hk => Nat.lt_of_lt_of_le (hml k hk.1) hkk.size⟩
    have gone : ∀ c W3, KeepsFrom w.heap.size W2 W3 → Kept (rel R x M) W2 W3 → Ix c (pre ++ [x]) (rel R x M) W3 → ∃ v W4, (Instr.endRound (D + 1) (some c)).run P W3 = .ok v W4 ∧ (Ending.returned v = .returned (.bool false) ∧ (∃ c, Ix c (pre ++ [x]) (rel R x M) W4 ∧ Bk .done (some c) (rel R x M) W4) ∧ Kept (rel R x M) W W4) := by
      intro c W3 k1 k2 k3
      obtain ⟨W4, r1, rfl, r3, r4, r5⟩ := fin (some c) W3 k1 k2
      exact ⟨_, _, r1, rfl, ⟨c, hIx2 c (pre ++ [x], rel R x M) W3 _ _ _ k3 (by omega) r3 rfl, r4⟩, r5⟩
    intro e a3 W3 hp
    cases e with
    | normal =>
      obtain ⟨k1, k2, k3⟩ := hp
      obtain ⟨W4, r1, rfl, r3, r4, r5⟩ := fin none W3 k1 k2
      exact ⟨_, _, r1, .inl ⟨rfl, ⟨hI2 (pre ++ [x], rel R x M) W3 _ _ _ k3 (by omega) r3 rfl, r4⟩, r5⟩⟩
    | ret => obtain ⟨v, W4, r1, r2⟩ := gone .ret W3 hp.1 hp.2.1 hp.2.2; exact ⟨v, W4, r1, .inr r2⟩
    | exit id => obtain ⟨v, W4, r1, r2⟩ := gone (.exit id) W3 hp.1 hp.2.1 hp.2.2; exact ⟨v, W4, r1, .inr r2⟩
    | goto t => obtain ⟨v, W4, r1, r2⟩ := gone (.goto t) W3 hp.1 hp.2.1 hp.2.2; exact ⟨v, W4, r1, .inr r2⟩
    | panic ch => exact hp.elim
    | outgrown => exact hp.elim
  · rw [hBk]
    exact ⟨hVl, hVd, fun h => by have := hM0 _ h; omega, fun h => by have := hM0 _ h; omega, fun k hk => by have := hM0 k hk; omega⟩
  · -- behind the iterator
    rintro e W2 ⟨⟨v, rfl⟩, ⟨xs, M, hex, hi, hbk⟩ | ⟨pre, M, hep, c, hi, hbk⟩⟩
    all_goals
      rw [hBk] at hbk
      obtain ⟨hl, hd, hm1, hm0, hml⟩ := hbk
      have hr := run_endLoop (P := P) hl (by rw [hrec]; simp)
      rw [hrec] at hr
    · exact ⟨none, _, hr, hdone D xs M _ (by omega) (hE xs W2 _ _ _ hex (by omega) hl rfl) (hI2 (xs, M) W2 _ _ _ hi (by omega) hl rfl) ((World.putObj_heap_other (by omega)).trans hd)⟩
    · exact ⟨some c, _, hr, hstop D c pre M _ (by omega) (hEp pre W2 _ _ _ hep (by omega) hl rfl) (hIx2 c (pre, M) W2 _ _ _ hi (by omega) hl rfl) ((World.putObj_heap_other (by omega)).trans hd)⟩
end Go.Proofs.YtjfkgdfmkofbmaaGreatDoor

namespace Go.Proofs.YtjfkgdfmkofbmaaGreatDoor
set_option linter.unusedSimpArgs false
set_option linter.unusedVariables false
open Go.RowKit

theorem wpListIn_append_grew {F : Fence} {n' : Nat} {P : Program} (w : World) {ops : Array Oper} {rest : List Oper} {o : Oper} {a : Act} {Q : Exit → Act → World → Prop} (hgd : o.guard = none) (s y : Operand) (t tx : TypeId)
    (ho : o.op = .call { callee := .builtin .append, args := #[s, y], argTypes := #[t, tx] })
    (base : Nat) (e : TypeId) (i : TypeInfo) (z : Value) (size bytes : Nat) (ht : P.underlying t = some (.slice e)) (hi : P.info? e = some i) (hz : i.zero = some z)
    (hsize : i.size = size) (hby : i.bytes = bytes) (hzs : z.cells.size = size)
    (v : Value) (n : Nat) (xs : List Value) (hsv : a.eval s = v) (hown : w.ownsRow base e size v n xs)
    (x : Value) (m : Nat) (news : List Value) (hx : a.eval y = x) (hs : Src P size tx x m news w)
    (h63 : n + m ≤ maxLen) (hbytes : (n + m) * bytes ≤ 140737488355328) (hbase : base ≤ w.heap.size)
    (h : ∀ v' w', w'.ownsRow base e size v' (n + m) (xs ++ news) → Grew w w' v v' → wpListIn F n' P ops Q rest (a.put o.dst v') w') : wpListIn F n' P ops Q (o :: rest) a w := by
  refine wpListIn_plain hgd fun K hK => ?_
  obtain ⟨v', w', hr, h2, h3⟩ := run_append_grew (P := P) w base t tx o.type e i z size bytes ht hi hz hsize hby hzs v n xs hown x m news hs h63 hbytes hbase
  unfold Oper.wpIn
  refine ⟨by simp [Oper.about, ho, resolve, Target.leads, Sem.run_pure], ?_⟩
  rw [Oper.semAt_plain F _ _ (by rw [ho]; intro c hc'; cases hc')]
  simp [execOp, ho, resolve, invoke, builtin, hsv, hx, hr, Result.andThen]
  exact hK _ _ (h v' w' h2 h3)

/-- A box that holds a slice of the call's own. -/
structure Col (n0 : Nat) (tS tE : TypeId) (size : Nat) (W : World) (Bx : Nat) (v : Value) (n : Nat) (xs : List Value) : Prop where
  row : RowAt W Bx tS #[v]
  own : W.ownsRow n0 tE size v n xs
  ne : v.ownBlock ≠ some Bx

theorem Col.nil {n0 : Nat} {tS tE : TypeId} {size : Nat} {W : World} {Bx : Nat} (h : RowAt W Bx tS #[.slice none 0 0]) : Col n0 tS tE size W Bx (.slice none 0 0) 0 [] :=
  ⟨h, World.ownsRow_nil _ _ _ _, by simp [Value.ownBlock]⟩

theorem Col.lt {n0 : Nat} {tS tE : TypeId} {size : Nat} {W : World} {Bx : Nat} {v : Value} {n : Nat} {xs : List Value} (h : Col n0 tS tE size W Bx v n xs) : Bx < W.heap.size ∧ ∀ k, v.ownBlock = some k → n0 ≤ k ∧ k < W.heap.size :=
  ⟨h.row.lt, h.own.lt⟩

/-- What leaves the box and the slice as they lie. -/
theorem Col.same {n0 : Nat} {tS tE : TypeId} {size : Nat} {W W' : World} {Bx : Nat} {v : Value} {n : Nat} {xs : List Value} (h : Col n0 tS tE size W Bx v n xs)
    (hb : W'.heap[Bx]? = W.heap[Bx]?) (hv : ∀ k, v.ownBlock = some k → W'.heap[k]? = W.heap[k]?) : Col n0 tS tE size W' Bx v n xs := by
  refine ⟨hb.trans h.row, ⟨h.own.1, ?_⟩, h.ne⟩
  rcases h.own.2 with hn | ⟨g, cap, cur, rfl, hg, hc, rest⟩
  · exact .inl hn
  · exact .inr ⟨g, cap, cur, rfl, hg, (hv g rfl).trans hc, rest⟩

/-- What a round of collecting leaves. -/
structure ColF (W W' : World) (Bx : Nat) (v v' : Value) : Prop where
  os : W'.os = W.os
  tape : W'.tape = W.tape
  output : W'.output = W.output
  size : W.heap.size ≤ W'.heap.size
  keep : ∀ k, k < W.heap.size → k ≠ Bx → v.ownBlock ≠ some k → W'.heap[k]? = W.heap[k]?
  others : KeepsOthers W W'
  lies : ∀ k, v'.ownBlock = some k → v.ownBlock = some k ∨ W.heap.size ≤ k

theorem Col.step {n0 : Nat} {tS tE : TypeId} {size : Nat} {W W1 w3 : World} {Bx : Nat} {v v' : Value} {n m : Nat} {xs ys : List Value} (h : Col n0 tS tE size W Bx v n xs) (h1 : ∃ o, W1 = W.alloc o)
    (hown : w3.ownsRow n0 tE size v' m ys) (hg : Grew W1 w3 v v') : Col n0 tS tE size (w3.setCell ⟨Bx, 0, none⟩ v') Bx v' m ys ∧ ColF W (w3.setCell ⟨Bx, 0, none⟩ v') Bx v v' := by
  obtain ⟨o, rfl⟩ := h1
  have hb1 : Below W.heap.size W (W.alloc o) := (Below.refl _ _).alloc (Nat.le_refl _) _
  have hBl := h.row.lt
  have hs1 : (W.alloc o).heap.size = W.heap.size + 1 := by simp
  have hr3 : RowAt w3 Bx tS #[v] := (hg.block (by rw [hs1]; omega) h.ne).trans ((hb1.block Bx hBl).trans h.row)
  have hlies : ∀ k, v'.ownBlock = some k → v.ownBlock = some k ∨ W.heap.size ≤ k := by
    intro k hk
    rcases hg.lies with e | ⟨j, e, hj⟩
    · exact .inl (e.symm.trans hk)
    · rw [e] at hk; cases hk; right; omega
  have hne' : v'.ownBlock ≠ some Bx := by
    intro e
    rcases hlies Bx e with e' | e'
    · exact h.ne e'
    · omega
  refine ⟨⟨hr3.same v', ownsRow_setOther hown hne' _, hne'⟩, ⟨hg.by_.os, hg.by_.tape, hg.by_.output, ?_, ?_, ?_, hlies⟩⟩
  · have := hg.size; simp only [World.setCell, Array.size_modify]; omega
  · intro k hk hkb hkv
    rw [heap_setCell_other w3 _ k _ (by simpa using hkb), hg.block (by rw [hs1]; omega) hkv, hb1.block k hk]
  · refine (KeepsOthers.alloc W o).trans ((KeepsOthers.of_grownBy hg.by_ ?_).trans (KeepsOthers.setCell _ _ _))
    intro j ob hj hob
    rcases h.own.2 with ⟨rfl, _⟩ | ⟨g, cap, cur, rfl, hg', hc, rest⟩
    · simp [Value.ownBlock] at hj
    · have : g = j := by simpa [Value.ownBlock] using hj
      subst this
      have hc1 : (W.alloc o).heap[g]? = some (.cells cur tE (0, 0)) := (hb1.block g (Array.getElem?_eq_some_iff.1 hc).1).trans hc
      rw [hc1] at hob
      cases hob
      rfl

/-- What the round promises the iterator. -/
theorem ColF.kept {W W' : World} {Bx : Nat} {v v' : Value} (h : ColF W W' Bx v v') {M : Nat → Prop} (hb : ¬ M Bx) (hv : ∀ k, v.ownBlock = some k → ¬ M k) : Kept M W W' :=
  ⟨h.os, h.tape, h.output, h.size, fun k hk hm => h.keep k hk (fun e => hb (e ▸ hm)) (fun e => hv k e hm)⟩

/-- What has changed since the call began: what lay then is as it was, but for the blocks M0; the iterator's blocks are these and new ones. -/
structure Fr (M0 : Nat → Prop) (w : World) (M : Nat → Prop) (W : World) : Prop where
  os : W.os = w.os
  tape : W.tape = w.tape
  output : W.output = w.output
  size : w.heap.size ≤ W.heap.size
  keep : ∀ k, k < w.heap.size → ¬ M0 k → W.heap[k]? = w.heap[k]?
  new : ∀ k, M k → M0 k ∨ w.heap.size ≤ k

theorem Fr.refl (M0 : Nat → Prop) (w : World) : Fr M0 w M0 w := ⟨rfl, rfl, rfl, Nat.le_refl _, fun _ _ _ => rfl, fun _ h => .inl h⟩
theorem Fr.its {M0 M M' : Nat → Prop} {w W W' : World} (h : Fr M0 w M W) (g : Its M M' W W') : Fr M0 w M' W' :=
  ⟨g.os.trans h.os, g.tape.trans h.tape, g.output.trans h.output, Nat.le_trans h.size g.size,
    fun k hk hm => (g.keep k (Nat.lt_of_lt_of_le hk h.size) (fun hk' => by rcases h.new k hk' with h1 | h1; exact hm h1; omega)).trans (h.keep k hk hm),
    fun k hk => by
      rcases g.new k hk with h1 | h1
      · exact h.new k h1
      · exact .inr (Nat.le_trans h.size h1)⟩
theorem Fr.below {M0 M : Nat → Prop} {w W W' : World} (h : Fr M0 w M W) (g : Below w.heap.size W W') : Fr M0 w M W' :=
  ⟨g.os.trans h.os, g.tape.trans h.tape, g.output.trans h.output, Nat.le_trans h.size g.size, fun k hk hm => (g.block k hk).trans (h.keep k hk hm), h.new⟩
theorem Fr.sub {M0 M M' : Nat → Prop} {w W : World} (h : Fr M0 w M W) (g : ∀ k, M' k → M k) : Fr M0 w M' W := ⟨h.os, h.tape, h.output, h.size, h.keep, fun k hk => h.new k (g k hk)⟩
theorem Fr.turn {M0 M : Nat → Prop} {w W : World} (h : Fr M0 w M W) {l : Nat} (o : Obj) (hl : w.heap.size ≤ l) : Fr M0 w M (W.putObj l o) :=
  ⟨h.os, h.tape, h.output, by simpa using h.size, fun k hk hm => (World.putObj_heap_other (by omega)).trans (h.keep k hk hm), h.new⟩
theorem ColF.fr {w W W' : World} {Bx : Nat} {v v' : Value} (h : ColF W W' Bx v v') {M0 M : Nat → Prop} (g : Fr M0 w M W) (hb : w.heap.size ≤ Bx) (hv : ∀ k, v.ownBlock = some k → w.heap.size ≤ k) : Fr M0 w M W' :=
  ⟨h.os.trans g.os, h.tape.trans g.tape, h.output.trans g.output, Nat.le_trans g.size h.size,
    fun k hk hm => (h.keep k (Nat.lt_of_lt_of_le hk g.size) (fun e => by omega) (fun e => by have := hv k e; omega)).trans (g.keep k hk hm), g.new⟩
end Go.Proofs.YtjfkgdfmkofbmaaGreatDoor
