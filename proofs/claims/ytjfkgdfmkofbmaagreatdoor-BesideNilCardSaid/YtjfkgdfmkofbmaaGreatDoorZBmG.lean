/- A range over two memories in step, by what each round does; pieces that are gathered in a box. -/
import Derived.Test.YtjfkgdfmkofbmaaGreatDoorZBdA
import Derived.Test.YtjfkgdfmkofbmaaGreatDoorZBmB
import Derived.Deep.Upon
namespace Go.Proofs.YtjfkgdfmkofbmaaGreatDoor
set_option linter.unusedSimpArgs false
set_option linter.unusedVariables false
open Go.RowKit
attribute [local go_sem] Oper.semAt_some

/-- How a round may be left. -/
def PostB (M : Nat → Prop) (I Ix : List PtV → (Nat → Prop) → World → Prop) (xs : List PtV) (W : World) : Exit → Act → World → Prop
  | .normal, _, W' => ∃ M' : Nat → Prop, (∀ k, M k → M' k) ∧ StepV M' W W' ∧ I xs M' W'
  | .ret, _, W' => ∃ M' : Nat → Prop, (∀ k, M k → M' k) ∧ StepV M' W W' ∧ Ix xs M' W'
  | .exit _, _, _ => False
  | .goto _, _, _ => False
  | .panic _, _, _ => False
  | .outgrown, _, _ => False
def TurnI (I : List PtV → (Nat → Prop) → World → Prop) : Prop := ∀ pre M W l o o', I pre M W → W.heap[l]? = some o → o.isCells = false → I pre M (W.putObj l o')
def LessI (I : List PtV → (Nat → Prop) → World → Prop) : Prop := ∀ pre M M' W, I pre M W → (∀ k, M' k → M k) → I pre M' W
theorem its_one (M : Nat → Prop) (W : World) (o : Obj) : Its M (fun k => M k ∨ k = W.heap.size) W (W.alloc o) :=
  ⟨rfl, rfl, rfl, by simp, fun k hk _ => Below.heap_alloc _ _ _ hk, fun _ h => .inl h, fun k h => h.imp id (fun e => by omega), fun hl k hk => by
    rw [World.size_alloc]
    rcases hk with h | h
    · have := hl k h; omega
    · omega⟩
theorem row_turn {W : World} {X : Nat} {t : TypeId} {vs : Array Value} (h : RowAt W X t vs) {l : Nat} {o : Obj} (o' : Obj) (ho : W.heap[l]? = some o) (hoc : o.isCells = false) : RowAt (W.putObj l o') X t vs := by
  refine (World.putObj_heap_other (fun e => ?_)).trans h
  subst e; unfold RowAt at h; rw [ho] at h; cases h; cases hoc
theorem StepV.less {M M' : Nat → Prop} {W W' : World} (h : StepV M W W') (hm : ∀ k, M' k → M k) : StepV M' W W' := ⟨⟨h.kept.os, h.kept.tape, h.kept.output, h.kept.size, fun k hk hk' => h.kept.keep k hk (hm k hk')⟩, h.others⟩

theorem range_both {assign body : Code} {Q : Exit → Act → World → Prop} {a : Act} {w4 : World} {X : Nat → Prop} {ba bb bt : Nat} {va vb vt : Value} {A B : List PzV} {bs : List Nat} {g : Operand} {p s : Nat}
    (hS : BothS (fun k => k < w4.heap.size ∧ ¬ X k) w4 ba bb bt va vb vt A B bs) (hla : A.length ≤ 20000) (hlb : B.length ≤ 20000) (hma : mayZ (A.map PzV.m) = true) (hmb : mayZ (B.map PzV.m) = true) (hB : Bnds bs (A.map PzV.m) (B.map PzV.m))
    (hg : a.eval g = .func (.func 45) #[] #[.pointer (some ⟨bt, 0, none⟩), .pointer (some ⟨ba, 0, none⟩), .pointer (some ⟨bb, 0, none⟩)])
    (I Ix : List PtV → (Nat → Prop) → World → Prop) (hI : Abide I) (hIx : Abide Ix) (hI2 : TurnI I) (hIx2 : TurnI Ix) (hIm : LessI I) (hIxm : LessI Ix)
    (h0 : I [] (fun k => k < w4.heap.size ∧ ¬ X k) w4)
    (hassign : ∀ (l : Nat) (x : PtV) (W : World) (K : Act → World → Prop), K { tmps := (a.tmps.setIfInBounds p x.v).setIfInBounds s (.pointer (some ⟨W.heap.size, 0, none⟩)), defers := [] } (W.alloc (.cells #[.int .u64 (x.at_ : Int), x.sa, x.sb, .int .i64 x.p, .int .i64 x.q] 81)) →
      assign.wpIn (Fence.wide.inRound l) (3 - 1 - 1) Tryz.prog (Exit.then K (fun _ _ _ => False)) { tmps := a.tmps.setIfInBounds p x.v, defers := [] } W)
    (hbody : ∀ (l : Nat) (pre : List PtV) (x : PtV) (M : Nat → Prop) (Px : Nat) (W : World), I pre (fun k => M k ∨ k = Px) W → RowAt W Px 81 #[.int .u64 (x.at_ : Int), x.sa, x.sb, .int .i64 x.p, .int .i64 x.q] → BothT (A.map PzV.m) (B.map PzV.m) bs pre x M W → pre.length < 100000 → (∀ k, M k ∨ k = Px → k < W.heap.size) → w4.heap.size ≤ Px → ¬ M Px →
      body.wpIn (Fence.wide.inRound l) (3 - 1 - 1) Tryz.prog (PostB M I Ix (pre ++ [x]) W) { tmps := (a.tmps.setIfInBounds p x.v).setIfInBounds s (.pointer (some ⟨Px, 0, none⟩)), defers := [] } W)
    (hdone : ∀ (D : Nat) (xs : List PtV) (M : Nat → Prop) (W : World), w4.heap.size ≤ D → xs.map PtV.m = partsZ (A.map PzV.m) (B.map PzV.m) bs → SameM (fun k => k < w4.heap.size ∧ ¬ X k) w4 W → I xs M W → W.heap[D]? = some (.deferred (some [])) → Q .normal { a with defers := { target := .collected D, args := #[] } :: a.defers } W)
    (hstop : ∀ (D : Nat) (pre : List PtV) (M : Nat → Prop) (W : World), w4.heap.size ≤ D → SameM (fun k => k < w4.heap.size ∧ ¬ X k) w4 W → Ix pre M W → W.heap[D]? = some (.deferred (some [])) → Code.wpIn Fence.wide 3 Tryz.prog .ret Q { a with defers := { target := .collected D, args := #[] } :: a.defers } W) :
    (Code.rangeFunc g #[p] assign body).wpIn Fence.wide 3 Tryz.prog Q a w4 := by
  refine wpIn_rangeM 3 hg enters_both
    (both_seq 2 (fun k => k < w4.heap.size ∧ ¬ X k) w4 ba bb bt va vb vt A B bs hS hla hlb (srt_may hma) (srt_may hmb) (p7_may hma) (p7_may hmb) hB (bnds_len hB (by simpa using hla) (by simpa using hlb)))
    (SameM.refl _ _) (fun W o h => h.trans (SameM.below (fun k hk => Nat.lt_of_lt_of_le hk.1 h.size) ((Below.refl _ _).alloc (Nat.le_refl _) _))) (fun k hk => hk.1)
    (fun xs W l o o' h hl ho hoc => ⟨h.1, h.2.turn hl (fun k hk => hk.1)⟩) (fun xs W l o o' h hl ho hoc => h.turn hl (fun k hk => hk.1)) (fun _ => rfl)
    I (fun c pre M W => c = .ret ∧ Ix pre M W)
    (fun pre x M a₁ W => ∃ Px, a₁ = { tmps := (a.tmps.setIfInBounds p x.v).setIfInBounds s (.pointer (some ⟨Px, 0, none⟩)), defers := [] } ∧ I pre (fun k => M k ∨ k = Px) W ∧ w4.heap.size ≤ Px ∧ ¬ M Px ∧ RowAt W Px 81 #[.int .u64 (x.at_ : Int), x.sa, x.sb, .int .i64 x.p, .int .i64 x.q] ∧ BothT (A.map PzV.m) (B.map PzV.m) bs pre x M W)
    hI (fun c pre M M' W W' h g => ⟨h.1, hIx _ _ _ _ _ h.2 g⟩) (fun s W l o o' h hl ho hoc => hI2 _ _ _ _ _ o' h ho hoc) (fun c s W l o o' h hl ho hoc => ⟨h.1, hIx2 _ _ _ _ _ o' h.2 ho hoc⟩) ?axturn h0 ?assign ?body (fun D xs M W hD hE h hd => hdone D xs M W hD hE.1 hE.2 h hd)
    (fun D c pre M W hD hE h hd => by obtain ⟨rfl, h⟩ := h; exact hstop D pre M W hD hE h hd)
  case axturn =>
    rintro ⟨pre, x, M, a₁⟩ W l o o' ⟨Px, ha, h, hge, hnm, hr, hT⟩ hl ho hoc
    exact ⟨Px, ha, hI2 _ _ _ _ _ o' h ho hoc, hge, hnm, row_turn hr o' ho hoc, bs_turn hT.1 o' ho hoc, bs_turn hT.2.1 o' ho hoc, hT.2.2⟩
  case assign =>
    intro l pre x M W K h hT hlen hml hl hlt hK
    have hal : Below W.heap.size W (W.alloc (.cells #[.int .u64 (x.at_ : Int), x.sa, x.sb, .int .i64 x.p, .int .i64 x.q] 81)) := (Below.refl _ _).alloc (Nat.le_refl _) _
    have hz := hassign l x W K (hK _ _ ((KeepsOthers.alloc _ _).from _) (Kept.of_below hal) (hI _ _ _ _ _ h (Its.of_below M hal)) ⟨W.heap.size, rfl, hI _ _ _ _ _ h (its_one M W _), by omega, fun hk => Nat.lt_irrefl _ (hml _ hk), heap_alloc_new _ _, hT.1.below hal, hT.2.1.below hal, hT.2.2⟩)
    have e : (#[p].zip #[x.v]).foldl (fun t (z : Nat × Value) => t.setIfInBounds z.1 z.2) a.tmps = a.tmps.setIfInBounds p x.v := by simp
    rw [← e] at hz
    exact hz
  case body =>
    rintro l pre x M a₁ W - ⟨Px, rfl, h, hge, hnm, hr, hT⟩ hlen hml hl hlt
    refine wpIn_mono (hbody l pre x M Px W h hr hT hlen (fun k hk => hk.elim (hml k) (fun e => e ▸ hr.lt)) hge hnm) ?_
    intro e a3 W3 hp
    cases e with
    | normal =>
      obtain ⟨M', hs, h1, h2⟩ := hp
      exact ⟨h1.others.from _, (h1.less (fun k hk => hs k hk.1)).kept, hIm _ _ _ _ h2 (fun k hk => hs k hk.1)⟩
    | ret =>
      obtain ⟨M', hs, h1, h2⟩ := hp
      exact ⟨h1.others.from _, (h1.less (fun k hk => hs k hk.1)).kept, rfl, hIxm _ _ _ _ h2 (fun k hk => hs k hk.1)⟩
    | exit id => exact hp.elim
    | goto t => exact hp.elim
    | panic ch => exact hp.elim
    | outgrown => exact hp.elim

/-- No number of the kinds that pieces are made of. -/
def NotNum (u : Value) : Prop := (∀ z, u ≠ .int .u64 z) ∧ (∀ z, u ≠ .int .u8 z)
theorem notNum_slice (p : Option Addr) (n c : Nat) : NotNum (.slice p n c) := ⟨fun z h => (by cases h), fun z h => (by cases h)⟩
theorem notNum_i64 (z : Int) : NotNum (.int .i64 z) := ⟨fun z h => (by cases h), fun z h => (by cases h)⟩
theorem BS.ne_row {W : World} {v : Value} {l : List UInt8} (h : BS W v l) {X : Nat} {t : TypeId} {u : Value} (hr : RowAt W X t #[u]) (hu : NotNum u) : ∀ k, inBlk v k → k ≠ X := by
  obtain ⟨p, cap, rfl, -, -, h3⟩ := h
  intro k hk e
  subst e
  cases p with
  | none => exact hk.elim
  | some a =>
    obtain ⟨h0, hb⟩ : 0 < l.length ∧ a.block = k := hk
    obtain ⟨b, off, ea, hc⟩ := h3 (List.length_pos_iff.1 h0)
    cases ea
    subst hb
    have h1 := hc 0 _ (List.getElem?_eq_getElem h0)
    unfold World.cell? at h1
    unfold RowAt at hr
    dsimp only at h1 hr
    rw [hr] at h1
    dsimp only at h1
    cases ho : off + 0 with
    | zero => rw [ho] at h1; simp at h1; exact hu.2 _ h1
    | succ j => rw [ho] at h1; simp at h1
theorem PzsAt.ne_row {W : World} {v : Value} {L : List PzV} (h : PzsAt W v L) {X : Nat} {t : TypeId} {u : Value} (hr : RowAt W X t #[u]) (hu : NotNum u) : (∀ k, inBlk v k → k ≠ X) ∧ ∀ x ∈ L, ∀ k, inBlk x.sl k → k ≠ X := by
  refine ⟨fun k hk e => ?_, fun x hx => (h.bytes x hx).ne_row hr hu⟩
  subst e
  obtain ⟨p, cap, rfl⟩ := RowsAt.form h.rows
  cases p with
  | none => exact hk.elim
  | some a =>
    obtain ⟨h0, hb⟩ : 0 < L.length ∧ a.block = k := hk
    obtain ⟨g, off, ea, h1, -⟩ := h.cell (List.getElem?_eq_getElem h0)
    cases ea
    have hb : g = k := hb
    subst hb
    unfold World.cell? at h1
    unfold RowAt at hr
    dsimp only at h1 hr
    rw [hr] at h1
    dsimp only at h1
    cases ho : off + 0 * 3 with
    | zero => rw [ho] at h1; simp at h1; exact hu.1 _ h1
    | succ j => rw [ho] at h1; simp at h1

/-- What both has made, to go over. -/
theorem boths_of {w3 w4 : World} {va vb vt : Value} {A B : List PzV} {bs : List Nat} {X : Nat → Prop} (h : BothIn w3 w4 va vb vt bs) (hA : PzsAt w3 va A) (hB : PzsAt w3 vb B) (hX : ∀ k, X k → ∃ t u, RowAt w3 k t #[u] ∧ NotNum u) :
    BothS (fun k => k < w4.heap.size ∧ ¬ X k) w4 w3.heap.size (w3.heap.size + 1) (w3.heap.size + 1 + 1) va vb vt A B bs := by
  have hs := h.size
  have hb := h.bel
  have xl : ∀ k, X k → k < w3.heap.size := fun k hk => by obtain ⟨t, u, hr, -⟩ := hX k hk; exact hr.lt
  obtain ⟨a1, a2⟩ := hA.blt
  obtain ⟨b1, b2⟩ := hB.blt
  have nA : (∀ k, inBlk va k → ¬ X k) ∧ ∀ x ∈ A, ∀ k, inBlk x.sl k → ¬ X k := ⟨fun k hk hx => by obtain ⟨t, u, hr, hu⟩ := hX k hx; exact (hA.ne_row hr hu).1 k hk rfl, fun x hx k hk hx' => by obtain ⟨t, u, hr, hu⟩ := hX k hx'; exact (hA.ne_row hr hu).2 x hx k hk rfl⟩
  have nB : (∀ k, inBlk vb k → ¬ X k) ∧ ∀ x ∈ B, ∀ k, inBlk x.sl k → ¬ X k := ⟨fun k hk hx => by obtain ⟨t, u, hr, hu⟩ := hX k hx; exact (hB.ne_row hr hu).1 k hk rfl, fun x hx k hk hx' => by obtain ⟨t, u, hr, hu⟩ := hX k hx'; exact (hB.ne_row hr hu).2 x hx k hk rfl⟩
  have ot := World.ownsRow.lt h.own
  exact ⟨h.ra, h.rb, h.rt, hA.below hb, hB.below hb, ownsRow_base h.own (Nat.zero_le _), ⟨by omega, fun e => by have := xl _ e; omega⟩, ⟨by omega, fun e => by have := xl _ e; omega⟩, ⟨by omega, fun e => by have := xl _ e; omega⟩,
    fun k hk => ⟨Nat.lt_of_lt_of_le (a1 k hk) hb.size, nA.1 k hk⟩, fun k hk => ⟨Nat.lt_of_lt_of_le (b1 k hk) hb.size, nB.1 k hk⟩, fun k hk => ⟨(ot k hk).2, fun e => by have := xl _ e; have := (ot k hk).1; omega⟩,
    fun x hx k hk => ⟨Nat.lt_of_lt_of_le (a2 x hx k hk) hb.size, nA.2 x hx k hk⟩, fun x hx k hk => ⟨Nat.lt_of_lt_of_le (b2 x hx k hk) hb.size, nB.2 x hx k hk⟩, fun k hk => hk.1⟩

/-- Pieces that are gathered in the box X; from B on all that they are lies. -/
structure OneV (M : Nat → Prop) (B X : Nat) (W : World) (v : Value) (L : List PzV) : Prop where
  row : RowAt W X 24 #[v]
  l : OwnPz (blkPz v L) W v L
  d : ∀ k, blkPz v L k → B ≤ k ∧ ¬ M k
  xm : ¬ M X
  xb : X < B
theorem OneV.nil {M : Nat → Prop} {B X : Nat} {W : World} (h : RowAt W X 24 #[.slice none 0 0]) (hx : ¬ M X) (hb : X < B) : OneV M B X W (.slice none 0 0) [] :=
  ⟨h, OwnPz.nil _ _, fun k hk => hk.elim (fun h => by cases h) (fun ⟨x, hx, _⟩ => by cases hx), hx, hb⟩
theorem OneV.its {M M' : Nat → Prop} {B X : Nat} {W W' : World} {v : Value} {L : List PzV} (h : OneV M B X W v L) (g : Its M M' W W') : OneV M' B X W' v L :=
  ⟨(g.keep X h.row.lt h.xm).trans h.row, h.l.of_block (fun k hk => g.keep k (h.l.blt k hk) (h.d k hk).2), fun k hk => ⟨(h.d k hk).1, fun hm => by rcases g.new k hm with e | e; exact (h.d k hk).2 e; have := h.l.blt k hk; omega⟩, fun hm => by rcases g.new _ hm with e | e; exact h.xm e; have := h.row.lt; omega, h.xb⟩
theorem OneV.less {M M' : Nat → Prop} {B X : Nat} {W : World} {v : Value} {L : List PzV} (h : OneV M B X W v L) (hm : ∀ k, M' k → M k) : OneV M' B X W v L := ⟨h.row, h.l, fun k hk => ⟨(h.d k hk).1, fun e => (h.d k hk).2 (hm k e)⟩, fun e => h.xm (hm _ e), h.xb⟩
theorem OneV.turn {M : Nat → Prop} {B X : Nat} {W : World} {v : Value} {L : List PzV} (h : OneV M B X W v L) {l : Nat} {o : Obj} (o' : Obj) (ho : W.heap[l]? = some o) (hoc : o.isCells = false) : OneV M B X (W.putObj l o') v L :=
  ⟨row_turn h.row o' ho hoc, h.l.of_block (fun k hb => World.putObj_heap_other (fun e => by subst e; have := h.l.cells hb ho; rw [hoc] at this; cases this)), h.d, h.xm, h.xb⟩
theorem OneV.below {M : Nat → Prop} {B X : Nat} {W W' : World} {v : Value} {L : List PzV} (h : OneV M B X W v L) (g : Below W.heap.size W W') : OneV M B X W' v L := h.its (Its.of_below M g)
theorem OneV.form {M : Nat → Prop} {B X : Nat} {W : World} {v : Value} {L : List PzV} (h : OneV M B X W v L) : ∃ p c, v = .slice p L.length c := by
  obtain ⟨p, c, e⟩ := RowsAt.form h.l.reads.rows
  exact ⟨p, c, e⟩
/-- What put leaves, stored into the box. -/
def PutV (M : Nat → Prop) (B X : Nat) (W : World) (v : Value) (l : List Pz) (e : Ending) (W' : World) : Prop :=
  ∃ v' L', e = .returned v' ∧ L'.map PzV.m = l ∧ OneV M B X (W'.setCell ⟨X, 0, none⟩ v') v' L' ∧ StepV M W (W'.setCell ⟨X, 0, none⟩ v') ∧ (∀ k, k < B → k ≠ X → k < W.heap.size → (W'.setCell ⟨X, 0, none⟩ v').heap[k]? = W.heap[k]?) ∧ RowAt W' X 24 #[v] ∧ ∃ p c, v' = .slice p L'.length c
theorem lay_put (M : Nat → Prop) (B X : Nat) (W : World) (v : Value) (L : List PzV) (h : OneV M B X W v L) (hB : B ≤ W.heap.size) (hM : ∀ k, M k → k < W.heap.size) (hlen : L.length ≤ 100000) (at_ : Nat) (prot : Int) (sp : Option Addr) (sc : Nat) (bs : List UInt8)
    (hbs : BS W (.slice sp bs.length sc) bs) (hne : bs ≠ []) (hmax : at_ + bs.length ≤ MAXA) :
    Calls Tryz.prog 21 #[v, .int .u64 (at_ : Int), .int .i64 prot, .slice sp bs.length sc] W (PutV M B X W v (putP (L.map PzV.m) at_ prot bs)) := by
  refine (bd_put W (blkPz v L) (fun k hk => h.l.blt k hk) v L h.l hlen at_ prot sp sc bs hbs hne hmax).mono ?_
  rintro e W' ⟨v', L', rfl, ho, hm, hi⟩
  have hX := h.row.lt
  have hr : RowAt W' X 24 #[v] := (hi.keep X hX (fun hk => by have := (h.d _ hk).1; have := h.xb; omega)).trans h.row
  have nk : ∀ k, blkPz v' L' k → B ≤ k ∧ ¬ M k := fun k hk => by
    rcases ho.sub k hk with e | e
    · exact h.d k e
    · exact ⟨by omega, fun hm => by have := hM k hm; omega⟩
  have hne' : ∀ k, B ≤ k → k ≠ X := fun k hk e => by have := h.xb; omega
  have set : ∀ k, k ≠ X → (W'.setCell ⟨X, 0, none⟩ v').heap[k]? = W'.heap[k]? := fun k hk => heap_setCell_other _ _ _ _ hk
  refine ⟨v', L', rfl, hm, ⟨hr.same (i := 0) v', ho.tight.of_block (fun k hk => set k (hne' k (nk k hk).1)), nk, h.xm, h.xb⟩, ⟨⟨hi.os, hi.tape, hi.output, by simp [World.setCell]; exact hi.size, fun k hk hmk => ?_⟩, ⟨by simp [World.setCell]; exact hi.size, fun k o hk hoc => ?_⟩⟩, fun k hk hkX hkW => (set k hkX).trans (hi.keep k hkW (fun e => by have := (h.d k e).1; omega)), hr, ?_⟩
  · rw [set k (fun e => h.xm (e ▸ hmk))]
    exact hi.keep k hk (fun e => (h.d k e).2 hmk)
  · have hkX : k ≠ X := fun e => by
      have hrow := h.row
      rw [e] at hk; unfold RowAt at hrow; rw [hrow] at hk; cases hk; cases hoc
    rw [set k hkX]
    refine (hi.keep k (Array.getElem?_eq_some_iff.1 hk).1 (fun e => ?_)).trans hk
    have := h.l.cells e hk
    rw [hoc] at this; cases this
  · obtain ⟨p, c, e⟩ := RowsAt.form ho.reads.rows
    exact ⟨p, c, e⟩

/-- The boxes of the results. -/
structure BoxV (M : Nat → Prop) (X4 X5 : Nat) (W : World) (n : Int) : Prop where
  r4 : RowAt W X4 24 #[.slice none 0 0]
  r5 : RowAt W X5 31 #[.int .i64 n]
  x4 : ¬ M X4
  x5 : ¬ M X5
theorem BoxV.its {M M' : Nat → Prop} {X4 X5 : Nat} {n : Int} {W W' : World} (h : BoxV M X4 X5 W n) (g : Its M M' W W') : BoxV M' X4 X5 W' n :=
  ⟨(g.keep _ h.r4.lt h.x4).trans h.r4, (g.keep _ h.r5.lt h.x5).trans h.r5, fun hm => by rcases g.new _ hm with e | e; exact h.x4 e; have := h.r4.lt; omega, fun hm => by rcases g.new _ hm with e | e; exact h.x5 e; have := h.r5.lt; omega⟩
theorem BoxV.less {M M' : Nat → Prop} {X4 X5 : Nat} {n : Int} {W : World} (h : BoxV M X4 X5 W n) (hm : ∀ k, M' k → M k) : BoxV M' X4 X5 W n := ⟨h.r4, h.r5, fun e => h.x4 (hm _ e), fun e => h.x5 (hm _ e)⟩
theorem BoxV.turn {M : Nat → Prop} {X4 X5 : Nat} {n : Int} {W : World} (h : BoxV M X4 X5 W n) {l : Nat} {o : Obj} (o' : Obj) (ho : W.heap[l]? = some o) (hoc : o.isCells = false) : BoxV M X4 X5 (W.putObj l o') n := ⟨row_turn h.r4 o' ho hoc, row_turn h.r5 o' ho hoc, h.x4, h.x5⟩
/-- An error is stored. -/
theorem BoxV.err {M : Nat → Prop} {X4 X5 : Nat} {n m : Int} {W : World} (h : BoxV M X4 X5 W n) (hne : X4 ≠ X5) : W.setCell ⟨X4, 0, none⟩ (.slice none 0 0) = W ∧ BoxV M X4 X5 (W.setCell ⟨X5, 0, none⟩ (.int .i64 m)) m ∧ StepV M W (W.setCell ⟨X5, 0, none⟩ (.int .i64 m)) :=
  ⟨setCell_selfB (i := 0) h.r4 rfl, ⟨(heap_setCell_other _ _ _ _ hne).trans h.r4, h.r5.same (i := 0) _, h.x4, h.x5⟩, ⟨Kept.set _ h.x5, KeepsOthers.setCell _ _ _⟩⟩
/-- A store into a block that they are not. -/
theorem OneV.setP {M : Nat → Prop} {B X Px i : Nat} {W : World} {u v : Value} {L : List PzV} (h : OneV (fun k => M k ∨ k = Px) B X W v L) : OneV M B X (W.setCell ⟨Px, i, none⟩ u) v L :=
  ⟨(heap_setCell_other _ _ _ _ (fun e => h.xm (.inr e))).trans h.row, h.l.of_block (fun k hk => heap_setCell_other _ _ _ _ (fun e => (h.d k hk).2 (.inr e))), fun k hk => ⟨(h.d k hk).1, fun e => (h.d k hk).2 (.inl e)⟩, fun e => h.xm (.inl e), h.xb⟩
theorem BoxV.setP {M : Nat → Prop} {X4 X5 Px i : Nat} {n : Int} {W : World} {u : Value} (h : BoxV (fun k => M k ∨ k = Px) X4 X5 W n) : BoxV M X4 X5 (W.setCell ⟨Px, i, none⟩ u) n :=
  ⟨(heap_setCell_other _ _ _ _ (fun e => h.x4 (.inr e))).trans h.r4, (heap_setCell_other _ _ _ _ (fun e => h.x5 (.inr e))).trans h.r5, fun e => h.x4 (.inl e), fun e => h.x5 (.inl e)⟩
/-- Off the iterator's promise. -/
theorem PzsAt.sameX {w4 W : World} {X : Nat → Prop} {v : Value} {L : List PzV} (h : PzsAt w4 v L) (hs : SameM (fun k => k < w4.heap.size ∧ ¬ X k) w4 W) (hX : ∀ k, X k → ∃ t u, RowAt w4 k t #[u] ∧ NotNum u) : PzsAt W v L := by
  obtain ⟨a1, a2⟩ := h.blt
  refine h.of_block (fun k hk => hs.blk k ⟨a1 k hk, fun e => ?_⟩) (fun x hx k hk => hs.blk k ⟨a2 x hx k hk, fun e => ?_⟩)
  · obtain ⟨t, u, hr, hu⟩ := hX k e; exact (h.ne_row hr hu).1 k hk rfl
  · obtain ⟨t, u, hr, hu⟩ := hX k e; exact (h.ne_row hr hu).2 x hx k hk rfl
/-- What stands while pieces are gathered, no window of which is refused. -/
def AccI (st : List Pz → Pt → List Pz) (chk : Pt → Bool) (w : World) (B X X4 X5 : Nat) (pre : List PtV) (M : Nat → Prop) (W : World) : Prop :=
  ∃ v Lc, OneV M B X W v Lc ∧ BoxV M X4 X5 W 0 ∧ FrV w W ∧ Lc.map PzV.m = (pre.map PtV.m).foldl st [] ∧ ∀ y ∈ pre, chk y.m = false
def ChkI (chk : Pt → Bool) (w : World) (X4 X5 : Nat) (pre : List PtV) (M : Nat → Prop) (W : World) : Prop := BoxV M X4 X5 W 0 ∧ FrV w W ∧ ∀ y ∈ pre, chk y.m = false
def StopI (PS : List Pt) (chk : Pt → Bool) (n : Int) (w : World) (X4 X5 : Nat) (_ : List PtV) (M : Nat → Prop) (W : World) : Prop := BoxV M X4 X5 W n ∧ FrV w W ∧ ∃ r ∈ PS, chk r = true
def NoneI (_ : List PtV) (_ : Nat → Prop) (_ : World) : Prop := False
section
variable {st : List Pz → Pt → List Pz} {chk : Pt → Bool} {w : World} {B X X4 X5 : Nat} {PS : List Pt} {n : Int}
theorem acc_abide : Abide (AccI st chk w B X X4 X5) := by
  rintro pre M M' W W' ⟨v, Lc, h1, h2, h3, h4⟩ g
  exact ⟨v, Lc, h1.its g, h2.its g, h3.its g, h4⟩
theorem acc_turn : TurnI (AccI st chk w B X X4 X5) := by
  rintro pre M W l o o' ⟨v, Lc, h1, h2, h3, h4⟩ ho hoc
  exact ⟨v, Lc, h1.turn o' ho hoc, h2.turn o' ho hoc, h3.turn _ _, h4⟩
theorem acc_less : LessI (AccI st chk w B X X4 X5) := by
  rintro pre M M' W ⟨v, Lc, h1, h2, h3, h4⟩ hm
  exact ⟨v, Lc, h1.less hm, h2.less hm, h3, h4⟩
theorem chk_abide : Abide (ChkI chk w X4 X5) := fun pre M M' W W' h g => ⟨h.1.its g, h.2.1.its g, h.2.2⟩
theorem chk_turn : TurnI (ChkI chk w X4 X5) := fun pre M W l o o' h ho hoc => ⟨h.1.turn o' ho hoc, h.2.1.turn _ _, h.2.2⟩
theorem chk_less : LessI (ChkI chk w X4 X5) := fun pre M M' W h hm => ⟨h.1.less hm, h.2⟩
theorem stop_abide : Abide (StopI PS chk n w X4 X5) := fun pre M M' W W' h g => ⟨h.1.its g, h.2.1.its g, h.2.2⟩
theorem stop_turn : TurnI (StopI PS chk n w X4 X5) := fun pre M W l o o' h ho hoc => ⟨h.1.turn o' ho hoc, h.2.1.turn _ _, h.2.2⟩
theorem stop_less : LessI (StopI PS chk n w X4 X5) := fun pre M M' W h hm => ⟨h.1.less hm, h.2⟩
theorem none_abide : Abide NoneI := fun _ _ _ _ _ h _ => h
theorem none_turn : TurnI NoneI := fun _ _ _ _ _ _ h _ _ => h
theorem none_less : LessI NoneI := fun _ _ _ _ h _ => h
theorem acc_len (hst : ∀ out r, (st out r).length ≤ out.length + 1) : ∀ (l : List Pt) (out : List Pz), (l.foldl st out).length ≤ out.length + l.length
  | [], out => Nat.le_refl _
  | r :: l, out => by
    rw [List.foldl_cons, List.length_cons]
    have := acc_len hst l (st out r)
    have := hst out r
    omega
theorem len_leftS (out : List Pz) (r : Pt) : (leftS out r).length ≤ out.length + 1 := by
  unfold leftS; split
  · exact put_len _ _ _ _
  · exact Nat.le_succ _
theorem len_patS (out : List Pz) (r : Pt) : (patS out r).length ≤ out.length + 1 := put_len _ _ _ _
theorem len_outS (out : List Pz) (r : Pt) : (outS out r).length ≤ out.length + 1 := put_len _ _ _ _
end
end Go.Proofs.YtjfkgdfmkofbmaaGreatDoor

namespace Go.Proofs.YtjfkgdfmkofbmaaGreatDoor
set_option linter.unusedSimpArgs false
set_option linter.unusedVariables false
open Go.RowKit

theorem BS.full {w : World} {p : Option Addr} {n c : Nat} {l : List UInt8} (h : BS w (.slice p n c) l) : BS w (.slice p n n) l := by
  obtain ⟨p', c', e, h1, h2, h3⟩ := h
  cases e
  exact ⟨p, l.length, rfl, Nat.le_refl _, ⟨Nat.le_trans h1 h2.1, h2.2⟩, h3⟩
theorem run_cat {P : Program} {t e : TypeId} {i : TypeInfo} (R : U8Row P t e i) (w : World) (tx ty : TypeId) (p : Option Addr) (n : Nat) (xs : List UInt8) (hx : BS w (.slice p n n) xs) (x : Value) (ys : List UInt8) (hs : Src P 1 tx x ys.length (u8s ys) w) (hlen : xs.length + ys.length ≤ 140737488355328) :
    ∃ p' c' w', (Builtin.append_ #[t, tx] ty #[.slice p n n, x]).run P w = .ok (.slice p' (n + ys.length) c') w' ∧ BS w' (.slice p' (n + ys.length) c') (xs ++ ys) ∧ Below w.heap.size w w' := by
  have hn : n = xs.length := hx.len.symm
  subst hn
  obtain ⟨_, _, he, -, -, h3⟩ := id hx
  cases he
  have hsz := R.size
  by_cases hy : ys = []
  · subst hy
    refine ⟨p, xs.length, w, run_append_nothing w t tx ty e i R.un R.hi p xs.length xs.length (Nat.le_refl _) x (by rw [hsz]; exact hs), ?_, Below.refl _ _⟩
    rw [List.append_nil]
    exact hx
  · have hpos := List.length_pos_iff.2 hy
    have hold : (Builtin.firstCells i.size xs.length (.slice p xs.length xs.length)).run P w.drew = .ok (u8s xs).toArray w.drew := by
      by_cases hxe : xs = []
      · subst hxe
        cases p with
        | none => exact run_firstCells_none w.drew _ _ _ _
        | some a => exact run_firstCells_some w.drew _ _ a _ _ [] (by simp) (fun j v h => by simp at h)
      · obtain ⟨b, off, rfl, hc⟩ := h3 hxe
        refine run_firstCells_some w.drew _ _ _ _ _ (u8s xs) (by rw [hsz]; simp [u8s]) (fun j v hv => ?_)
        have ea : (⟨b, off, none⟩ : Addr).add j = ⟨b, off + j, none⟩ := by unfold Addr.add; split <;> simp_all
        rw [ea]
        simp only [u8s, List.getElem?_map, Option.map_eq_some_iff] at hv
        obtain ⟨y, hy, rfl⟩ := hv
        exact hc j y hy
    have h63 : xs.length + ys.length ≤ maxLen := Nat.le_trans hlen (by decide)
    have hr := run_append_grow_src w t tx ty e i _ R.un R.hi R.z p xs.length xs.length (u8s xs) hold x ys.length (u8s ys) (by rw [hsz]; exact hs) (by omega) (by simp only [maxLen] at h63; omega) (by rw [R.bytes]; exact growslice_fits (by omega) (by omega))
    have hge := grownCap_ge w (xs.length + ys.length) xs.length e
    have hcm := grownCap_le_maxLen w (xs.length + ys.length) xs.length e h63
    refine ⟨_, _, _, hr, ⟨_, _, by rw [List.length_append], by rw [List.length_append]; exact hge, ⟨hcm, by rw [List.length_append]; exact hlen⟩, fun _ => ⟨w.heap.size, 0, rfl, fun k y hk => ?_⟩⟩, ⟨rfl, rfl, rfl, by simp, fun k hk => Below.heap_alloc w.drew _ k hk⟩⟩
    have hrow := heap_alloc_new w.drew (.cells ((u8s xs ++ u8s ys).toArray ++ Builtin.zeroCells (Value.int .u8 0).cells (grownCap w (xs.length + ys.length) xs.length e - (xs.length + ys.length))) e)
    have hkl := (List.getElem?_eq_some_iff.1 hk).1
    have hku : (u8s xs ++ u8s ys)[k]? = some (.int .u8 (y.toNat : Int)) := by rw [← u8s_app]; unfold u8s; rw [List.getElem?_map, hk]; rfl
    unfold World.cell?
    rw [show (⟨w.heap.size, 0 + k, none⟩ : Addr).block = w.drew.heap.size from rfl, hrow]
    show ((u8s xs ++ u8s ys).toArray ++ _)[0 + k]? = _
    rw [Nat.zero_add, Array.getElem?_append_left (by simpa [u8s] using hkl), List.getElem?_toArray]
    exact hku
/-- The same at a step of a region that draws its order. -/
theorem step_cat {P : Program} {t e : TypeId} {i : TypeInfo} (R : U8Row P t e i) (w : World) {ops : Array Oper} {o : Oper} {a : Act} {K : Act → World → Prop} {Q : Exit → Act → World → Prop} {E : Prop} (hgd : o.guard = none) (s y : Operand) (tx : TypeId)
    (ho : o.op = .call { callee := .builtin .append, args := #[s, y], argTypes := #[t, tx] }) (p : Option Addr) (n : Nat) (xs : List UInt8) (hxs : BS w (.slice p n n) xs) (hsv : a.eval s = .slice p n n) (x : Value) (ys : List UInt8) (hx : a.eval y = x) (hs : Src P 1 tx x ys.length (u8s ys) w)
    (hlen : xs.length + ys.length ≤ 140737488355328)
    (h : ∀ p' c' w', BS w' (.slice p' (n + ys.length) c') (xs ++ ys) → Below w.heap.size w w' → K (a.put o.dst (.slice p' (n + ys.length) c')) w') : if Region.wanted o (yielded ops a.tmps) = true then Oper.wp P o a w K Q else E := by
  have hw : Region.wanted o (yielded ops a.tmps) = true := by simp [Region.wanted, hgd]
  rw [if_pos hw]
  obtain ⟨p', c', w', hr, h2, h3⟩ := run_cat R w tx o.type p n xs hxs x ys hs hlen
  unfold Oper.wp execOp
  simp only [ho, resolve, invoke, builtin, Sem.run_bind, Sem.run_pure, Result.andThen_ok, List.map_toArray, List.map_cons, List.map_nil, hsv, hx, hr]
  exact h p' c' w' h2 h3
end Go.Proofs.YtjfkgdfmkofbmaaGreatDoor
