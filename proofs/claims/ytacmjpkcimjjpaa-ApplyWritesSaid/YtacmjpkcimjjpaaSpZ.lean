/- Package space: Dump. -/
import Derived.Test.YtacmjpkcimjjpaaSpY
namespace Go.Proofs.Ytacmjpkcimjjpaa
set_option linter.unusedSimpArgs false
set_option linter.unusedVariables false
open Go.RowKit Go.Maps Go.Shelf
attribute [local go_sem] Oper.semAt_some

theorem sp_all (w : World) (p : Option Addr) : Calls Try.prog 41 #[.pointer p] w fun e w' => e = .returned (.func (.func 54) #[] #[.pointer (some ⟨w.heap.size, 0, none⟩)]) ∧ w' = w.alloc (.cells #[.pointer p] 35) := by
  go_enter Try.func41, Try.ntmps41
  go_wp2_with fail
  go_ret
  exact ⟨rfl, rfl⟩

theorem enters_all (args : Array Value) (w : World) : (callFunc 54 args).run Try.prog w = .ok (.enter 54 args) w :=
  enters_of Try.func54 (by kernel_rfl) rfl args w

theorem Try.infoPiece : (Try.prog.info? 106).map (fun i => (i.zero, i.size, i.bytes)) = some (some (.agg #[.int .u64 0, .int .i64 0, .slice none 0 0]), 3, 40) := by kernel_rfl

def Pc.cells (x : Pc) : List Value := [.int .u64 (x.at_ : Int), .int .i64 x.prot, x.sl]
def pcCells (xs : List Pc) : List Value := xs.flatMap Pc.cells
theorem pcCells_snoc (xs : List Pc) (x : Pc) : pcCells (xs ++ [x]) = pcCells xs ++ x.cells := by simp [pcCells]
theorem pcCells_length (xs : List Pc) : (pcCells xs).length = xs.length * 3 := by
  induction xs with
  | nil => rfl
  | cons x r ih => simp [pcCells, Pc.cells] at ih ⊢; omega

theorem inBlk_own {v : Value} {k : Nat} (h : inBlk v k) : v.ownBlock = some k := by
  cases v with
  | slice p n c =>
    cases p with
    | none => exact h.elim
    | some a => exact congrArg some h.2
  | _ => exact h.elim

/-- Between two rounds of Dump. -/
structure DmI (M0 : Nat → Prop) (w : World) (Lb : Nat) (pre : List Pc) (M : Nat → Prop) (W : World) (v : Value) : Prop where
  col : Col w.heap.size 49 106 3 W Lb v pre.length (pcCells pre)
  box : ¬ M Lb
  own : ∀ k, v.ownBlock = some k → ¬ M k
  fr : Fr M0 w M W
  bs : ∀ x ∈ pre, BS W x.sl x.bytes
  blk : ∀ x ∈ pre, ∀ k, x.blk k → ¬ M k ∧ k ≠ Lb ∧ v.ownBlock ≠ some k ∧ k < W.heap.size

theorem cells_not {W : World} {k l : Nat} {o : Obj} {v : Value} {i : Nat} (hc : W.cell? ⟨k, i, none⟩ = some v) (ho : W.heap[l]? = some o) (hoc : o.isCells = false) : k ≠ l := by
  intro e
  subst e
  unfold World.cell? at hc
  rw [ho] at hc
  cases o <;> simp_all [Obj.isCells]

theorem BS.turn {W : World} {v : Value} {l : List UInt8} (h : BS W v l) {k : Nat} {o : Obj} (o' : Obj) (ho : W.heap[k]? = some o) (hoc : o.isCells = false) : BS (W.putObj k o') v l := by
  obtain ⟨p, cap, rfl, h1, h2, h3⟩ := h
  refine ⟨p, cap, rfl, h1, h2, fun hne => ?_⟩
  obtain ⟨b, off, rfl, hc⟩ := h3 hne
  refine ⟨b, off, rfl, fun i x hx => ?_⟩
  rw [← hc i x hx]
  exact World.cell?_of_block (World.putObj_heap_other (cells_not (hc i x hx) ho hoc))

theorem Col.turn {n0 : Nat} {tS tE : TypeId} {size : Nat} {W : World} {Bx : Nat} {v : Value} {n : Nat} {xs : List Value} (h : Col n0 tS tE size W Bx v n xs) {l : Nat} {o : Obj} (o' : Obj) (ho : W.heap[l]? = some o) (hoc : o.isCells = false) : Col n0 tS tE size (W.putObj l o') Bx v n xs := by
  refine h.same (World.putObj_heap_other (fun e => ?_)) (fun k hk => World.putObj_heap_other (fun e => ?_))
  · subst e; have := h.row; unfold RowAt at this; rw [ho] at this; cases this; cases hoc
  · subst e
    rcases h.own.2 with ⟨rfl, _⟩ | ⟨g, cap, cur, rfl, hg', hcc, rest⟩
    · simp [Value.ownBlock] at hk
    · have : g = k := by simpa [Value.ownBlock] using hk
      subst this
      rw [hcc] at ho; cases ho; cases hoc

theorem DmI.its {M0 M M' : Nat → Prop} {w W W' : World} {Lb : Nat} {pre : List Pc} {v : Value} (h : DmI M0 w Lb pre M W v) (g : Its M M' W W') : DmI M0 w Lb pre M' W' v := by
  have hl := h.col.lt
  have no : ∀ k, k < W.heap.size → ¬ M k → ¬ M' k := fun k hk hm hm' => by
    rcases g.new k hm' with h1 | h1
    · exact hm h1
    · omega
  exact ⟨h.col.same (g.keep _ hl.1 h.box) (fun k hk => g.keep k (hl.2 k hk).2 (h.own k hk)), no _ hl.1 h.box, fun k hk => no k (hl.2 k hk).2 (h.own k hk), h.fr.its g,
    fun x hx => (h.bs x hx).of_block fun k hk hlt => g.keep k hlt (h.blk x hx k (inBlk_own hk)).1,
    fun x hx k hk => ⟨no k (h.blk x hx k hk).2.2.2 (h.blk x hx k hk).1, (h.blk x hx k hk).2.1, (h.blk x hx k hk).2.2.1, Nat.lt_of_lt_of_le (h.blk x hx k hk).2.2.2 g.size⟩⟩

theorem DmI.turn {M0 M : Nat → Prop} {w W : World} {Lb : Nat} {pre : List Pc} {v : Value} (h : DmI M0 w Lb pre M W v) {l : Nat} {o : Obj} (o' : Obj) (hl : w.heap.size ≤ l) (ho : W.heap[l]? = some o) (hoc : o.isCells = false) : DmI M0 w Lb pre M (W.putObj l o') v :=
  ⟨h.col.turn o' ho hoc, h.box, h.own, h.fr.turn _ hl, fun x hx => (h.bs x hx).turn o' ho hoc, fun x hx k hk => ⟨(h.blk x hx k hk).1, (h.blk x hx k hk).2.1, (h.blk x hx k hk).2.2.1, by simpa using (h.blk x hx k hk).2.2.2⟩⟩

theorem DmI.alloc {M0 M : Nat → Prop} {w W : World} {Lb : Nat} {pre : List Pc} {v : Value} (h : DmI M0 w Lb pre M W v) (o : Obj) : DmI M0 w Lb pre M (W.alloc o) v :=
  h.its (Its.of_below M ((Below.refl _ _).alloc (Nat.le_refl _) _))

/-- One piece more. -/
theorem DmI.step {M0 M : Nat → Prop} {w W W4 : World} {Lb : Nat} {pre : List Pc} {v v' : Value} {x : Pc} (h : DmI M0 w Lb pre M W v) (hc : Col w.heap.size 49 106 3 W4 Lb v' (pre.length + 1) (pcCells pre ++ x.cells)) (hf : ColF W W4 Lb v v') (hLb : w.heap.size ≤ Lb)
    (hx : BS W x.sl x.bytes) (hxm : ∀ k, x.blk k → M k) (hml : ∀ k, M k → k < W.heap.size) : DmI M0 w Lb (pre ++ [x]) (rel Pc.blk x M) W4 v' := by
  have lies : ∀ k, k < W.heap.size → v.ownBlock ≠ some k → v'.ownBlock ≠ some k := fun k hk hv hv' => by
    rcases hf.lies k hv' with h1 | h1
    · exact hv h1
    · omega
  have ox : ∀ k, x.blk k → k ≠ Lb ∧ v.ownBlock ≠ some k ∧ k < W.heap.size := fun k hk => ⟨fun e => h.box (e ▸ hxm k hk), fun e => h.own k e (hxm k hk), hml k (hxm k hk)⟩
  refine ⟨by rw [List.length_append, pcCells_snoc]; exact hc, fun hm => h.box hm.1, fun k hk hm => ?_, (hf.fr h.fr hLb (fun k hk => (h.col.lt.2 k hk).1)).sub (fun k hk => hk.1), ?_, ?_⟩
  · rcases hf.lies k hk with h1 | h1
    · exact h.own k h1 hm.1
    · have := hml k hm.1; omega
  · intro y hy
    rcases List.mem_append.1 hy with hy | hy
    · exact (h.bs y hy).of_block fun k hk hlt => hf.keep k hlt (h.blk y hy k (inBlk_own hk)).2.1 (h.blk y hy k (inBlk_own hk)).2.2.1
    · simp at hy; subst hy
      exact hx.of_block fun k hk hlt => hf.keep k hlt (ox k (inBlk_own hk)).1 (ox k (inBlk_own hk)).2.1
  · intro y hy k hk
    rcases List.mem_append.1 hy with hy | hy
    · obtain ⟨h1, h2, h3, h4⟩ := h.blk y hy k hk
      exact ⟨fun hm => h1 hm.1, h2, lies k h4 h3, Nat.lt_of_lt_of_le h4 hf.size⟩
    · simp at hy; subst hy
      obtain ⟨h2, h3, h4⟩ := ox k hk
      exact ⟨fun hm => hm.2 hk, h2, lies k h4 h3, Nat.lt_of_lt_of_le h4 hf.size⟩

/-- What Dump gives. -/
def DumpEnd (n0 : Nat) (pgs : List Pg) (w : World) (e : Ending) (w' : World) : Prop :=
  ∃ v xs ys, e = .returned v ∧ ys.Perm (pgs.map (·.no)) ∧ ys.Pairwise (· ≤ ·) ∧ xs.map Pc.d = (runsM (pgP pgs) ys).map (pieceM pgs) ∧
    w'.ownsRow n0 106 3 v xs.length (pcCells xs) ∧ (∀ x ∈ xs, BS w' x.sl x.bytes) ∧ Below w.heap.size w w'

set_option maxRecDepth 100000 in
set_option maxHeartbeats 4000000 in
theorem sp_dump (w : World) (s b : Nat) (pgs : List Pg) (h : SpAt w s b pgs) (hl : pgs.length ≤ 12) (hno : ∀ g ∈ pgs, g.no < 34359738368) :
    Calls Try.prog 15 #[.pointer (some ⟨s, 0, none⟩)] w (DumpEnd w.heap.size pgs w) := by
  refine (callsIn_wide (n := 3)).1 ?_
  refine callsIn_of_wp_marks Try.func15 rfl trivial ?_ rfl
  simp only [Try.ntmps15, List.size_toArray, List.length_cons, List.length_nil, Nat.reduceAdd, Nat.reduceSub, Array.replicate_succ, Array.replicate_zero, List.push_toArray, List.append_toArray, List.nil_append, List.cons_append]
  have H := hid (And.intro h (And.intro hl hno))
  clear h hl hno
  gi_wp2
  refine ⟨trivial, callsIn_wide.2 ((sp_all _ _).mono ?_)⟩
  rintro e w1 ⟨rfl, rfl⟩
  obtain ⟨W0, hW0⟩ : ∃ W0, W0 = (w.alloc (.cells #[.slice none 0 0] 49)).alloc (.cells #[.pointer (some ⟨s, 0, none⟩)] 35) := ⟨_, rfl⟩
  have hb0 : Below w.heap.size w W0 := by rw [hW0]; exact ((Below.refl _ _).alloc (Nat.le_refl _) _).alloc (by simp) _
  have hs0 : W0.heap.size = w.heap.size + 2 := by rw [hW0]; simp
  have hrL : RowAt W0 w.heap.size 49 #[.slice none 0 0] := by rw [hW0]; exact (Below.heap_alloc _ _ _ (by simp)).trans (heap_alloc_new w _)
  have hrB : RowAt W0 (w.heap.size + 1) 35 #[.pointer (some ⟨s, 0, none⟩)] := by
    rw [hW0]; have := heap_alloc_new (w.alloc (.cells #[.slice none 0 0] 49)) (.cells #[.pointer (some ⟨s, 0, none⟩)] 35); rwa [World.size_alloc] at this
  have hA0 : AllA (w.heap.size + 1) s b pgs (fun k => W0.heap[k]?) W0 := ⟨H.out.1.below hb0, hrB, fun k _ => rfl⟩
  have hM : ∀ k, allB (w.heap.size + 1) s b pgs k → k ≠ w.heap.size := by
    have hl := H.out.1.lt
    rintro k (rfl | rfl | rfl | ⟨g, hg, rfl⟩)
    · omega
    · omega
    · omega
    · have := hl.2.2 g hg; omega
  have H0 := hid (And.intro hb0 (And.intro hs0 (And.intro hrL (And.intro hA0 hM))))
  rw [World.size_alloc]
  have hW := hid hW0
  gi_wp2
  rw [← hW0]
  clear hb0 hs0 hrL hrB hA0 hM hW0
  refine wpIn_rangeM 3 (gf := 54) (lb := #[.pointer (some ⟨w.heap.size + 1, 0, none⟩)]) rfl enters_all (all_seq 2 (w.heap.size + 1) s b pgs (fun k => W0.heap[k]?) H.out.2.1 H.out.2.2) H0.out.2.2.2.1 (fun W o h => h.below ((Below.refl _ _).alloc (Nat.le_refl _) _)) (fun k hk => H0.out.2.2.2.1.lt k hk)
    (fun xs W l o o' h hl ho hoc => ⟨h.1, fun k hk => (World.putObj_heap_other (by have := H0.out.2.2.2.1.lt k hk; omega)).trans (h.2 k hk)⟩) (fun _ _ _ _ _ _ _ _ _ => trivial) (fun _ => rfl)
    (fun pre M W => ∃ v, DmI (allB (w.heap.size + 1) s b pgs) w w.heap.size pre M W v) (fun _ _ _ _ => False)
    (fun _ x M a W => ∃ Px, a = { tmps := #[.pointer (some ⟨s, 0, none⟩), undef, .slice none 0 0, .pointer (some ⟨w.heap.size, 0, none⟩), .pointer (some ⟨Px, 0, none⟩), .pointer (some ⟨s, 0, none⟩), .func (.func 54) #[] #[.pointer (some ⟨w.heap.size + 1, 0, none⟩)], x.v, undef, undef, undef, undef, undef], defers := [] } ∧ RowAt W Px 106 x.cells.toArray ∧ BS W x.sl x.bytes ∧ ∀ k, x.blk k → M k)
    ?abide (fun _ _ _ _ _ _ h _ => h) ?turn (fun _ _ _ _ _ _ h _ _ _ => h) ?axturn ?start ?assign ?body ?done ?stop
  case abide => rintro pre M M' W W' ⟨v, h⟩ g; exact ⟨v, h.its g⟩
  case turn => rintro ⟨pre, M⟩ W l o o' ⟨v, h⟩ hl ho hoc; exact ⟨v, h.turn o' (by have := H0.out.2.1; omega) ho hoc⟩
  case axturn =>
    rintro ⟨pre, x, M, a⟩ W l o o' ⟨Px, ha, hr, hb, hk⟩ hl ho hoc
    refine ⟨Px, ha, (World.putObj_heap_other (fun e => ?_)).trans hr, hb.turn o' ho hoc, hk⟩
    subst e; unfold RowAt at hr; rw [ho] at hr; cases hr; cases hoc
  case start =>
    exact ⟨_, Col.nil H0.out.2.2.1, fun h => H0.out.2.2.2.2 _ h rfl, fun k hk => (by simp [Value.ownBlock] at hk), (Fr.refl _ _).below H0.out.1, fun x hx => absurd hx (by simp), fun x hx => absurd hx (by simp)⟩
  case assign =>
    rintro l pre x M W K ⟨v, hi⟩ ⟨hbs, hbk⟩ hlen hml hl hlt hK
    have HA := hid (And.intro hi (And.intro hbs hbk))
    clear hi hbs hbk
    have hKK := hid hK
    clear hK
    dsimp only [Pc.v, Pc.sl]
    gi_wp2
    refine hKK.out _ _ ((KeepsOthers.alloc _ _).from _) (Kept.of_below ((Below.refl _ _).alloc (Nat.le_refl _) _)) ⟨v, HA.out.1.alloc _⟩ ⟨W.heap.size, rfl, heap_alloc_new _ _, HA.out.2.1.below ((Below.refl _ _).alloc (Nat.le_refl _) _), HA.out.2.2⟩
  case body =>
    rintro l pre x M a₁ W ⟨v, hi⟩ ⟨Px, rfl, hrx, hbs, hbk⟩ hlen hml hl hlt
    obtain ⟨i0, hi0, hz0, hz1, hz2⟩ := info_parts Try.infoPiece
    have c0 : W.cell? ⟨w.heap.size, 0, none⟩ = some v := hi.col.row.cell 0
    have f0 := hi.col.row.own 0
    have x0 : W.cell? ⟨Px, 0, none⟩ = some (.int .u64 (x.at_ : Int)) := hrx.cell 0
    have x1 : W.cell? ⟨Px, 1, none⟩ = some (.int .i64 x.prot) := hrx.cell 1
    have x2 : W.cell? ⟨Px, 2, none⟩ = some (.slice x.p x.bytes.length x.cap) := hrx.cell 2
    have HC := hid (And.intro hi (And.intro hbs (And.intro hbk (And.intro hlen hml))))
    have HI := hid (And.intro hi0 (And.intro hz0 (And.intro hz1 hz2)))
    clear hi hbs hbk hlen hi0 hz0 hz1 hz2 hrx
    dsimp only [Pc.v, Pc.sl]
    gi_wp2_with (gi_at_builtin; refine wpListIn_append_grew _ rfl _ _ 49 49 rfl w.heap.size 106 i0 _ 3 40 Try.underlying49 HI.out.1 HI.out.2.1 HI.out.2.2.1 HI.out.2.2.2 rfl _ pre.length _ rfl (HC.out.1.col.own.alloc _) _ 1 x.cells rfl (Src.laid W Try.underlying49 x.cells 1 rfl (by simp [Pc.cells, Pc.sl, Value.oneCell']) (0, 0) rfl) ?c1 ?c2 ?c3 ?_)
    case c1 => have := HC.out.2.2.2.1; simp only [maxLen]; omega
    case c2 => have := HC.out.2.2.2.1; omega
    case c3 => have := HC.out.1.fr.size; simp; omega
    intro v' w3 hown hg
    obtain ⟨p', cap', rfl⟩ := ownsRow_form hown
    have hb3 : RowAt w3 w.heap.size 49 #[v] := (hg.block (by have := HC.out.1.col.lt.1; simp; omega) HC.out.1.col.ne).trans (((Below.refl _ W).alloc (Nat.le_refl _) _).block _ HC.out.1.col.lt.1 |>.trans HC.out.1.col.row)
    have c3 := hb3.cell 0
    have f3 := hb3.own 0
    have HS := hid (HC.out.1.col.step ⟨_, rfl⟩ hown hg)
    clear hown hg hb3 c0 f0 x0 x1 x2
    gi_wp2
    exact ⟨HS.out.2.others.from _, HS.out.2.kept (fun h => HC.out.1.box h.1) (fun k hk h => HC.out.1.own k hk h.1), _, HC.out.1.step HS.out.1 HS.out.2 (Nat.le_refl _) HC.out.2.1 HC.out.2.2.1 HC.out.2.2.2.2⟩
  case done =>
    rintro D xs M W hD ⟨⟨ys, h1, h2, h3⟩, h4⟩ ⟨v, hi⟩ hd
    have c0 : W.cell? ⟨w.heap.size, 0, none⟩ = some v := hi.col.row.cell 0
    have HC := hid (And.intro hi (And.intro h1 (And.intro h2 (And.intro h3 (And.intro h4 hD)))))
    have Hd := hid hd
    clear hi h1 h2 h3 h4 hd
    gi_wp2
    refine ⟨by simp, .inl ⟨_, _, rfl, run_takeDeferred Hd.out, ?_⟩⟩
    have hDl : w.heap.size ≤ D := by have := H0.out.2.1; omega
    refine ⟨_, results_tmp rfl _ _ _, v, xs, ys, rfl, HC.out.2.1, HC.out.2.2.1, HC.out.2.2.2.1, (HC.out.1.turn _ hDl Hd.out rfl).col.own, (HC.out.1.turn _ hDl Hd.out rfl).bs, ?_⟩
    have hf := (HC.out.1.turn (.deferred none) hDl Hd.out rfl).fr
    refine ⟨hf.os, hf.tape, hf.output, hf.size, fun k hk => ?_⟩
    by_cases hm : allB (w.heap.size + 1) s b pgs k
    · exact (World.putObj_heap_other (by omega)).trans ((HC.out.2.2.2.2.1 k hm).trans (H0.out.1.block k hk))
    · exact hf.keep k hk hm
  case stop => intro D c pre M W hl hp h hD; exact h.elim
end Go.Proofs.Ytacmjpkcimjjpaa
