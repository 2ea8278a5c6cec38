/- Two memories beside one another: Memory. -/
import Derived.Test.YtjfkgdfmkofbmaaGreatDoorZBpR
import Derived.Test.YtjfkgdfmkofbmaaGreatDoorZBdA
import Derived.Test.YtjfkgdfmkofbmaaGreatDoorZRnd
import Derived.Sort.CutIn
namespace Go.Proofs.YtjfkgdfmkofbmaaGreatDoor
set_option linter.unusedSimpArgs false
set_option linter.unusedVariables false
open Go.RowKit
attribute [local go_sem] Oper.semAt_some

theorem BS.blt {W : World} {v : Value} {l : List UInt8} (h : BS W v l) : ∀ k, inBlk v k → k < W.heap.size := by
  obtain ⟨p, cap, rfl, -, -, h3⟩ := h
  intro k hk
  cases p with
  | none => exact hk.elim
  | some a =>
    have h0 : 0 < l.length := hk.1
    obtain ⟨b, off, e, hc⟩ := h3 (List.length_pos_iff.1 h0)
    cases e
    have : b = k := hk.2
    subst this
    exact World.block_lt_of_cell? W _ (hc 0 _ (List.getElem?_eq_getElem h0))
theorem PzsAt.blt {W : World} {v : Value} {L : List PzV} (h : PzsAt W v L) : (∀ k, inBlk v k → k < W.heap.size) ∧ ∀ x ∈ L, ∀ k, inBlk x.sl k → k < W.heap.size := by
  refine ⟨fun k hk => ?_, fun x hx => (h.bytes x hx).blt⟩
  obtain ⟨p, cap, rfl, -, -, h3⟩ := h.rows
  cases p with
  | none => exact hk.elim
  | some a =>
    have h0 : 0 < L.length := hk.1
    obtain ⟨b, off, e, hc⟩ := h3 (List.length_pos_iff.1 h0)
    cases e
    have : b = k := hk.2
    subst this
    exact World.block_lt_of_cell? W _ (hc 0 _ (List.getElem?_eq_getElem h0) 0 _ rfl)
theorem srt_may {l : List Pz} (h : mayZ l = true) : Srt 0 l := srt_of_may h
theorem p7_may : ∀ {l : List Pz} {n : Nat}, mayFrom n l = true → P7 l
  | [], n, _ => fun p hp => by cases hp
  | p :: l, n, h => by
    rw [mayFrom] at h
    simp only [Bool.and_eq_true, decide_eq_true_eq] at h
    intro q hq
    rcases List.mem_cons.1 hq with rfl | hq
    · exact h.1.1.1.1.2
    · exact p7_may h.2 q hq

theorem enters_both (args : Array Value) (w : World) : (callFunc 45 args).run Tryz.prog w = .ok (.enter 45 args) w :=
  enters_of Tryz.func45 (by kernel_rfl) rfl args w

theorem pairs_snd : ∀ {bs : List Nat} {x : Nat × Nat}, x ∈ pairsZ bs → x.1 ∈ bs ∧ x.2 ∈ bs
  | [], x, h => by simp [pairsZ] at h
  | [a], x, h => by simp [pairsZ] at h
  | a :: b :: l, x, h => by
    rw [pairsZ] at h
    rcases List.mem_cons.1 h with rfl | h
    · exact ⟨by simp, by simp⟩
    · have := pairs_snd h
      exact ⟨List.mem_cons_of_mem _ this.1, List.mem_cons_of_mem _ this.2⟩
theorem parts_max {a b : List Pz} {bs : List Nat} (ha : Srt 0 a) (hb : Srt 0 b) (h : Bnds bs a b) {r : Pt} (hr : r ∈ partsZ a b bs) : (r.a ≠ [] → r.at_ + r.a.length ≤ MAXA) ∧ (r.b ≠ [] → r.at_ + r.b.length ≤ MAXA) := by
  obtain ⟨hr1, -⟩ := List.mem_filter.1 hr
  obtain ⟨x, hx, rfl⟩ := List.mem_map.1 hr1
  have ok := ptOf_ok ha hb h hx
  have hm := h.max ha hb x.2 (pairs_snd hx).2
  have e := ok.at_
  have hlt := ok.lt
  constructor
  · intro hne
    rcases ok.ca with ⟨-, k⟩ | ⟨-, k⟩
    · exact absurd k hne
    · omega
  · intro hne
    rcases ok.cb with ⟨-, k⟩ | ⟨-, k⟩
    · exact absurd k hne
    · omega
/-- The rest of the world. -/
structure FrV (w W : World) : Prop where
  os : W.os = w.os
  tape : W.tape = w.tape
  output : W.output = w.output
  size : w.heap.size ≤ W.heap.size
theorem FrV.its {w W W' : World} {M M' : Nat → Prop} (h : FrV w W) (g : Its M M' W W') : FrV w W' := ⟨g.os.trans h.os, g.tape.trans h.tape, g.output.trans h.output, Nat.le_trans h.size g.size⟩
theorem FrV.below {w W W' : World} (h : FrV w W) (g : Below W.heap.size W W') : FrV w W' := ⟨g.os.trans h.os, g.tape.trans h.tape, g.output.trans h.output, Nat.le_trans h.size g.size⟩
theorem FrV.kept {w W W' : World} {M : Nat → Prop} (h : FrV w W) (g : Kept M W W') : FrV w W' := ⟨g.os.trans h.os, g.tape.trans h.tape, g.output.trans h.output, Nat.le_trans h.size g.size⟩
theorem SameM.turn {M0 : Nat → Prop} {W0 W : World} {l : Nat} {o' : Obj} (h : SameM M0 W0 W) (hl : W0.heap.size ≤ l) (hM : ∀ k, M0 k → k < W0.heap.size) : SameM M0 W0 (W.putObj l o') :=
  ⟨by simpa using h.size, fun k hk => (World.putObj_heap_other (by have := hM k hk; omega)).trans (h.blk k hk)⟩
theorem bs_turn {W : World} {v : Value} {bs : List UInt8} (h : BS W v bs) {l : Nat} {o : Obj} (o' : Obj) (ho : W.heap[l]? = some o) (hoc : o.isCells = false) : BS (W.putObj l o') v bs := by
  obtain ⟨p, cap, rfl, h1, h2, h3⟩ := h
  refine ⟨p, cap, rfl, h1, h2, fun hne => ?_⟩
  obtain ⟨b, off, rfl, hc⟩ := h3 hne
  refine ⟨b, off, rfl, fun i x hx => ?_⟩
  rw [← hc i x hx]
  refine World.cell?_of_block (World.putObj_heap_other (fun e => ?_))
  subst e
  have hcc := hc i x hx
  unfold World.cell? at hcc
  rw [ho] at hcc
  cases o <;> simp_all [Obj.isCells]
theorem FrV.turn {w W : World} (h : FrV w W) (l : Nat) (o' : Obj) : FrV w (W.putObj l o') := ⟨h.os, h.tape, h.output, by simpa using h.size⟩
theorem setCell_selfB {W : World} {X i : Nat} {t : TypeId} {vs : Array Value} {u : Value} (h : RowAt W X t vs) (hu : vs[i]? = some u) : W.setCell ⟨X, i, none⟩ u = W := by
  have hb : W.heap[X]? = some (.cells vs t (0, 0)) := h
  have hl := (Array.getElem?_eq_some_iff.1 hb).1
  obtain ⟨hi, rfl⟩ := Array.getElem?_eq_some_iff.1 hu
  have e : (W.setCell ⟨X, i, none⟩ vs[i]).heap = W.heap := by
    apply Array.ext_getElem?
    intro k
    by_cases hk : k = X
    · subst hk
      rw [heap_setCell_same W k i vs t vs[i] hb, hb]
      have : vs.setIfInBounds i vs[i] = vs := Array.ext (by simp) (fun j h1 h2 => by rw [Array.getElem_setIfInBounds h2]; split <;> simp_all)
      rw [this]
    · exact heap_setCell_other _ _ _ _ hk
  have : W.setCell ⟨X, i, none⟩ vs[i] = { W with heap := (W.setCell ⟨X, i, none⟩ vs[i]).heap } := rfl
  rw [this, e]
theorem nodup_len : ∀ {l m : List Nat}, l.Nodup → (∀ x ∈ l, x ∈ m) → l.length ≤ m.length
  | [], _, _, _ => Nat.zero_le _
  | x :: l, m, h, hs => by
    have hx : x ∈ m := hs x List.mem_cons_self
    have hn := List.nodup_cons.1 h
    have := nodup_len (l := l) (m := m.erase x) hn.2 (fun y hy => (List.mem_erase_of_ne (fun e => hn.1 (by rw [e] at hy; exact hy))).2 (hs y (List.mem_cons_of_mem _ hy)))
    rw [List.length_erase_of_mem hx] at this
    have : 0 < m.length := List.length_pos_of_mem hx
    rw [List.length_cons]; omega
theorem bnds_len {bs : List Nat} {a b : List Pz} (h : Bnds bs a b) (ha : a.length ≤ 20000) (hb : b.length ≤ 20000) : bs.length ≤ 90000 := by
  have hn : bs.Nodup := h.up.imp (fun h => Nat.ne_of_lt h)
  have he : ∀ l : List Pz, (endsZ l).length = 2 * l.length := fun l => by
    unfold endsZ
    induction l with
    | nil => rfl
    | cons p l ih => rw [List.flatMap_cons, List.length_append, ih, List.length_cons]; simp; omega
  have hs : bs ⊆ endsZ a ++ endsZ b := fun e hm => List.mem_append.2 ((h.mem e).1 hm)
  have := nodup_len hn hs
  rw [List.length_append, he, he] at this
  omega

/-- What Memory gives: rows of its own, all of them new, lying apart. -/
def MemEnd (w : World) (r : Rz) (e : Ending) (w' : World) : Prop :=
  ∃ X vl vg vp Ll Lg Lp, e = .returned (.tuple #[.agg #[vl, vg, vp], .int .i64 0]) ∧ Below w.heap.size w w' ∧ MemV (fun _ => False) w.heap.size X w' vl vg vp Ll Lg Lp ∧ rzV Ll Lg Lp = r

set_option maxRecDepth 100000 in
set_option maxHeartbeats 4000000 in
theorem bd_memory (w : World) (va vb : Value) (A B : List PzV) (hA : PzsAt w va A) (hB : PzsAt w vb B) (hla : A.length ≤ 20000) (hlb : B.length ≤ 20000) (hma : mayZ (A.map PzV.m) = true) (hmb : mayZ (B.map PzV.m) = true) (hca : (cellsZ (A.map PzV.m)).length ≤ 90000) :
    Calls Tryz.prog 8 #[va, vb] w (MemEnd w (memZ (A.map PzV.m) (B.map PzV.m))) := by
  refine (callsIn_wide (n := 3)).1 ?_
  refine callsIn_of_wp_marks Tryz.func8 rfl trivial ?_ rfl
  simp only [Tryz.ntmps8, List.size_toArray, List.length_cons, List.length_nil, Nat.reduceAdd, Nat.reduceSub, Array.replicate_succ, Array.replicate_zero, List.push_toArray, List.append_toArray, List.nil_append, List.cons_append]
  obtain ⟨pa, ca, rfl⟩ := RowsAt.form hA.rows
  obtain ⟨pb, cb, rfl⟩ := RowsAt.form hB.rows
  have hyA := hid (fun W (hb : Below w.heap.size w W) => bd_may W _ A (hA.below hb))
  have hyB := hid (fun W (hb : Below w.heap.size w W) => bd_may W _ B (hB.below hb))
  have hbo := hid (fun W (hb : Below w.heap.size w W) => bd_both W _ _ A B (hA.below hb) (hB.below hb) hla hlb (srt_may hma) (srt_may hmb))
  rw [hma] at hyA
  rw [hmb] at hyB
  have H := hid (And.intro hA (And.intro hB (And.intro hla (And.intro hlb (And.intro hma (And.intro hmb hca))))))
  clear hA hB hla hlb hma hmb hca
  gi_wp2
  obtain ⟨W1, hW1⟩ : ∃ W1, W1 = w.alloc (.cells #[.slice none 0 0, .slice none 0 0, .slice none 0 0] 27) := ⟨_, rfl⟩
  have hb1 : Below w.heap.size w W1 := by rw [hW1]; exact (Below.refl _ _).alloc (Nat.le_refl _) _
  have hr1 : RowAt W1 w.heap.size 27 #[.slice none 0 0, .slice none 0 0, .slice none 0 0] := by rw [hW1]; exact heap_alloc_new w _
  rw [← hW1]
  clear hW1
  refine ⟨trivial, callsIn_wide.2 ((hyA.out _ hb1).mono ?_)⟩
  rintro e w2 ⟨rfl, hb2⟩
  have hbw2 := hb1.trans (hb2.mono hb1.size)
  have hr2 := RowAt.below hr1 hb2
  gi_wp2
  refine ⟨trivial, callsIn_wide.2 ((hyB.out _ hbw2).mono ?_)⟩
  rintro e w3 ⟨rfl, hb3⟩
  have hbw3 := hbw2.trans (hb3.mono hbw2.size)
  have hr3 := RowAt.below hr2 hb3
  gi_wp2
  refine ⟨trivial, callsIn_wide.2 ((hbo.out _ hbw3).mono ?_)⟩
  rintro e w4 ⟨rfl, vt, bs, hbi, hbn⟩
  have hbw4 := hbw3.trans (hbi.bel.mono hbw3.size)
  have hr4 := RowAt.below hr3 hbi.bel
  have hsz := hbi.size
  have hX3 : w.heap.size < w3.heap.size := hr3.lt
  have hbt := World.ownsRow.lt hbi.own
  obtain ⟨hAv, hAx⟩ := H.out.1.blt
  obtain ⟨hBv, hBx⟩ := H.out.2.1.blt
  have hS : BothS (fun k => k < w4.heap.size ∧ k ≠ w.heap.size) w4 w3.heap.size (w3.heap.size + 1) (w3.heap.size + 1 + 1) _ _ vt A B bs :=
    ⟨hbi.ra, hbi.rb, hbi.rt, H.out.1.below hbw4, H.out.2.1.below hbw4, ownsRow_base hbi.own (Nat.zero_le _), ⟨by omega, by omega⟩, ⟨by omega, by omega⟩, ⟨by omega, by omega⟩,
      fun k hk => ⟨Nat.lt_of_lt_of_le (hAv k hk) hbw4.size, Nat.ne_of_lt (hAv k hk)⟩, fun k hk => ⟨Nat.lt_of_lt_of_le (hBv k hk) hbw4.size, Nat.ne_of_lt (hBv k hk)⟩, fun k hk => ⟨(hbt k hk).2, by have := (hbt k hk).1; omega⟩,
      fun x hx k hk => ⟨Nat.lt_of_lt_of_le (hAx x hx k hk) hbw4.size, Nat.ne_of_lt (hAx x hx k hk)⟩, fun x hx k hk => ⟨Nat.lt_of_lt_of_le (hBx x hx k hk) hbw4.size, Nat.ne_of_lt (hBx x hx k hk)⟩, fun k hk => hk.1⟩
  have hbl : bs.length ≤ 90000 := bnds_len hbn (by have := H.out.2.2.1; simpa using this) (by have := H.out.2.2.2.1; simpa using this)
  have hsa := srt_may H.out.2.2.2.2.1
  have hsb := srt_may H.out.2.2.2.2.2.1
  have hsum : sumA (partsZ (A.map PzV.m) (B.map PzV.m) bs) ≤ 90000 := by rw [← sum_cells, parts_a hsa hsb hbn]; exact H.out.2.2.2.2.2.2
  have H4 := hid (And.intro hS (And.intro hbn (And.intro hbl (And.intro hbw4 (And.intro hr4 (And.intro hX3 (And.intro hsum (And.intro hsz (And.intro hsa hsb)))))))))
  clear hb1 hr1 hb2 hbw2 hr2 hb3 hbw3 hr3 hbi hbn hbw4 hr4 hsz hX3 hbt hAv hAx hBv hBx hS hbl hsum hyA hyB hbo hsa hsb
  gi_wp2
  refine wpIn_rangeM 3 (gf := 45) (lb := #[.pointer (some ⟨w3.heap.size + 1 + 1, 0, none⟩), .pointer (some ⟨w3.heap.size, 0, none⟩), .pointer (some ⟨w3.heap.size + 1, 0, none⟩)]) rfl enters_both
    (both_seq 2 (fun k => k < w4.heap.size ∧ k ≠ w.heap.size) w4 _ _ _ _ _ vt A B bs H4.out.1 H.out.2.2.1 H.out.2.2.2.1 H4.out.2.2.2.2.2.2.2.2.1 H4.out.2.2.2.2.2.2.2.2.2 (p7_may H.out.2.2.2.2.1) (p7_may H.out.2.2.2.2.2.1) H4.out.2.1 H4.out.2.2.1)
    (SameM.refl _ _) (fun W o h => h.trans (SameM.below (fun k hk => Nat.lt_of_lt_of_le hk.1 h.size) ((Below.refl _ _).alloc (Nat.le_refl _) _))) (fun k hk => hk.1)
    (fun xs W l o o' h hl ho hoc => ⟨h.1, h.2.turn hl (fun k hk => hk.1)⟩) (fun xs W l o o' h hl ho hoc => h.turn hl (fun k hk => hk.1)) (fun _ => rfl)
    (fun pre M W => ∃ vl vg vp Ll Lg Lp, MemV M w.heap.size w.heap.size W vl vg vp Ll Lg Lp ∧ rzV Ll Lg Lp = (pre.map PtV.m).foldl stepZ ⟨[], [], []⟩ ∧ FrV w W) (fun _ _ _ _ => False)
    (fun pre x M a W => ∃ Px vl vg vp Ll Lg Lp, a = { tmps := #[Value.slice pa A.length ca, Value.slice pb B.length cb, undef, undef, Value.pointer (some ⟨w.heap.size, 0, none⟩), Value.int .i64 0, .pointer (some ⟨Px, 0, none⟩), undef, Value.slice pa A.length ca, Value.bool true, Value.bool false, Value.bool false, Value.slice pb B.length cb, Value.bool true, Value.bool false, Value.bool false, undef, Value.slice pa A.length ca, Value.slice pb B.length cb, Value.func (.func 45) #[] #[.pointer (some ⟨w3.heap.size + 1 + 1, 0, none⟩), .pointer (some ⟨w3.heap.size, 0, none⟩), .pointer (some ⟨w3.heap.size + 1, 0, none⟩)], x.v, undef, undef, undef, undef, undef, undef, undef, undef, undef, undef, undef, undef, undef, undef, undef, undef, undef, undef, undef, undef, undef, undef, undef, undef, undef, undef, undef, undef, undef, undef, undef, undef, undef, undef, undef, undef, undef, undef, undef, undef, undef, undef, undef, undef, undef, undef, undef, undef, undef, undef, undef, undef, undef, undef, undef, undef, undef, undef, undef, undef, undef, undef, undef, undef, undef, undef, undef, undef, undef], defers := [] } ∧ MemV (fun k => M k ∨ k = Px) w.heap.size w.heap.size W vl vg vp Ll Lg Lp ∧ rzV Ll Lg Lp = (pre.map PtV.m).foldl stepZ ⟨[], [], []⟩ ∧ FrV w W ∧ RowAt W Px 81 #[.int .u64 (x.at_ : Int), x.sa, x.sb, .int .i64 x.p, .int .i64 x.q] ∧
      BothT (A.map PzV.m) (B.map PzV.m) bs pre x M W)
    ?abide (fun _ _ _ _ _ _ h _ => h) ?turn (fun _ _ _ _ _ _ h _ _ _ => h) ?axturn ?start ?assign ?body ?done ?stop
  case abide =>
    rintro pre M M' W W' ⟨vl, vg, vp, Ll, Lg, Lp, h, hz, hf⟩ g
    exact ⟨vl, vg, vp, Ll, Lg, Lp, h.its g, hz, hf.its g⟩
  case turn =>
    rintro ⟨pre, M⟩ W l o o' ⟨vl, vg, vp, Ll, Lg, Lp, h, hz, hf⟩ hl ho hoc
    exact ⟨vl, vg, vp, Ll, Lg, Lp, h.turn o' ho hoc, hz, hf.turn _ _⟩
  case axturn =>
    rintro ⟨pre, x, M, a⟩ W l o o' ⟨Px, vl, vg, vp, Ll, Lg, Lp, ha, h, hz, hf, hr, hT⟩ hl ho hoc
    refine ⟨Px, vl, vg, vp, Ll, Lg, Lp, ha, h.turn o' ho hoc, hz, hf.turn _ _, (World.putObj_heap_other (fun e => ?_)).trans hr, bs_turn hT.1 o' ho hoc, bs_turn hT.2.1 o' ho hoc, hT.2.2⟩
    subst e; unfold RowAt at hr; rw [ho] at hr; cases hr; cases hoc
  case start =>
    exact ⟨_, _, _, [], [], [], MemV.nil H4.out.2.2.2.2.1 (fun h => h.2 rfl), rfl, ⟨H4.out.2.2.2.1.os, H4.out.2.2.2.1.tape, H4.out.2.2.2.1.output, H4.out.2.2.2.1.size⟩⟩
  case assign =>
    rintro l pre x M W K ⟨vl, vg, vp, Ll, Lg, Lp, h, hz, hf⟩ hT hlen hml hl hlt hK
    have HA := hid (And.intro h (And.intro hz (And.intro hf (And.intro hT hml))))
    have hKK := hid hK
    clear h hz hf hT hml hK
    gi_wp2
    have hal : Below W.heap.size W (W.alloc (.cells #[.int .u64 (x.at_ : Int), x.sa, x.sb, .int .i64 x.p, .int .i64 x.q] 81)) := (Below.refl _ _).alloc (Nat.le_refl _) _
    refine hKK.out _ _ ((KeepsOthers.alloc _ _).from _) (Kept.of_below hal) ⟨vl, vg, vp, Ll, Lg, Lp, HA.out.1.below hal, HA.out.2.1, HA.out.2.2.1.below hal⟩
      ⟨W.heap.size, vl, vg, vp, Ll, Lg, Lp, rfl, (HA.out.1.keepM (fun k => M k ∨ k = W.heap.size) (fun k hk hn h => by rcases h with h | h; exact hn h; omega)).below hal, HA.out.2.1, HA.out.2.2.1.below hal, heap_alloc_new _ _, HA.out.2.2.2.1.1.below hal, HA.out.2.2.2.1.2.1.below hal, HA.out.2.2.2.1.2.2⟩
  case body =>
    rintro l pre x M a₁ W - ⟨Px, vl, vg, vp, Ll, Lg, Lp, rfl, hmv, hz, hf, hrx, hT⟩ hlen hml hl hlt
    obtain ⟨rest, hrest⟩ := hT.2.2.2.2
    have hxm : x.m ∈ partsZ (A.map PzV.m) (B.map PzV.m) bs := by rw [← hrest]; simp
    obtain ⟨fa, fb, fpos, fp0, fq0, flen⟩ := parts_full H4.out.2.2.2.2.2.2.2.2.1 H4.out.2.2.2.2.2.2.2.2.2 H4.out.2.1 x.m hxm
    obtain ⟨fma, fmb⟩ := parts_max H4.out.2.2.2.2.2.2.2.2.1 H4.out.2.2.2.2.2.2.2.2.2 H4.out.2.1 hxm
    obtain ⟨k1, k2, k3⟩ := step_lens (pre.map PtV.m) ⟨[], [], []⟩
    have hsum : sumA (pre.map PtV.m) + x.a.length ≤ 90000 := by
      have e := H4.out.2.2.2.2.2.2.1
      rw [← hrest, sumA_app] at e
      have : sumA (x.m :: rest) = x.a.length + sumA rest := rfl
      omega
    obtain ⟨r0, hr0⟩ : ∃ r, r = (pre.map PtV.m).foldl stepZ ⟨[], [], []⟩ := ⟨_, rfl⟩
    rw [← hr0] at hz k1 k2 k3
    rw [List.length_map] at k1 k2
    simp only [List.length_nil, Nat.zero_add] at k1 k2 k3
    have hPl : Px < W.heap.size := hrx.lt
    have hM' : ∀ k, (M k ∨ k = Px) → k < W.heap.size := fun k hk => hk.elim (hml k) (fun e => e ▸ hPl)
    have hpost : ∀ (W' : World) (vl vg vp : Value) (Ll Lg : List PzV) (Lp : List PaV), MemV (fun k => M k ∨ k = Px) w.heap.size w.heap.size W' vl vg vp Ll Lg Lp → StepV (fun k => M k ∨ k = Px) W W' → rzV Ll Lg Lp = stepZ r0 x.m →
        KeepsFrom w4.heap.size W W' ∧ Kept (rel R0 x M) W W' ∧ ∃ vl vg vp Ll Lg Lp, MemV (rel R0 x M) w.heap.size w.heap.size W' vl vg vp Ll Lg Lp ∧ rzV Ll Lg Lp = ((pre ++ [x]).map PtV.m).foldl stepZ ⟨[], [], []⟩ ∧ FrV w W' := fun W' vl vg vp Ll Lg Lp h1 h2 h3 =>
      ⟨h2.others.from _, ⟨h2.kept.os, h2.kept.tape, h2.kept.output, h2.kept.size, fun k hk hm => h2.kept.keep k hk (.inl hm.1)⟩, vl, vg, vp, Ll, Lg, Lp, h1.keepM _ (fun k _ hn h => hn (.inl h.1)), by rw [List.map_append, List.foldl_append, ← hr0]; exact h3, hf.kept h2.kept⟩
    have hlo : r0.lost.length ≤ 100000 := by omega
    have hgo : r0.gained.length ≤ 100000 := by omega
    have hpo : r0.patches.length + x.a.length ≤ 90000 := by omega
    have hBW : w.heap.size ≤ W.heap.size := hf.size
    clear hrest hxm k1 k2 k3 hsum hr0 hf hlen hml hl hlt
    obtain ⟨xat, xpa, xca, la, xpb, xcb, lb, xp, xq⟩ := x
    obtain ⟨hba, hbb, hka, hkb, -⟩ := hT
    simp only [PtV.m] at fa fb fpos fp0 fq0 flen fma fmb hpo hpost
    have x3 : W.cell? ⟨Px, 3, none⟩ = some (.int .i64 xp) := hrx.cell 3
    have x4 : W.cell? ⟨Px, 4, none⟩ = some (.int .i64 xq) := hrx.cell 4
    by_cases hpq : xp = xq
    · subst hpq
      have hp0 : 0 < xp := by omega
      have hne := fa hp0
      have hln : lb.length = la.length := (flen hp0 hp0).symm
      have hmx := fma hne
      obtain ⟨ga, oa, rfl, hca⟩ := BS.at hba (List.length_pos_iff.2 hne)
      obtain ⟨gb, ob, rfl, hcb⟩ := BS.at hbb (by rw [hln]; exact List.length_pos_iff.2 hne)
      have mga : M ga := hka ga ⟨List.length_pos_iff.2 hne, rfl⟩
      have mgb : M gb := hkb gb ⟨by rw [hln]; exact List.length_pos_iff.2 hne, rfl⟩
      have hcell : ∀ wr, StepV (fun k => M k ∨ k = Px) W wr → RowAt wr Px 81 #[.int .u64 (xat : Int), .slice (some ⟨ga, oa, none⟩) la.length xca, .slice (some ⟨gb, ob, none⟩) lb.length xcb, .int .i64 xp, .int .i64 xp] ∧ (∀ i b, la[i]? = some b → wr.cell? ⟨ga, oa + i, none⟩ = some (.int .u8 (b.toNat : Int))) ∧ (∀ i b, lb[i]? = some b → wr.cell? ⟨gb, ob + i, none⟩ = some (.int .u8 (b.toNat : Int))) := fun wr hs =>
        ⟨(hs.kept.keep Px hPl (.inr rfl)).trans hrx, fun i b hi => (World.cell?_of_block (hs.kept.keep ga (hM' ga (.inl mga)) (.inl mga))).trans (hca i b hi), fun i b hi => (World.cell?_of_block (hs.kept.keep gb (hM' gb (.inl mgb)) (.inl mgb))).trans (hcb i b hi)⟩
      obtain ⟨n, hn⟩ : ∃ n, n = la.length := ⟨_, rfl⟩
      rw [hln] at hcell
      dsimp only [PtV.v, PtV.sa, PtV.sb]
      rw [hln]
      rw [← hn] at hcell hpo hmx ⊢
      have x1 : W.cell? ⟨Px, 1, none⟩ = some (.slice (some ⟨ga, oa, none⟩) n xca) := (hcell W (StepV.refl _ _)).1.cell 1
      have heq : (xp == xp) = true := by simp
      have hstep : stepZ r0 ⟨xat, la, lb, xp, xp⟩ = ⟨r0.lost, r0.gained, (diffsZ xat la lb).foldl pushD r0.patches⟩ := by unfold stepZ; rw [if_pos rfl]
      have HB := hid (And.intro hmv (And.intro hz (And.intro hM' (And.intro hpost (And.intro hcell (And.intro hpo (And.intro hmx (And.intro hn (And.intro hstep (And.intro hln hBW))))))))))
      have hln2 := hid hln
      clear hmv hz hM' hpost hcell hpo hmx hn hstep hln hBW fa fb fpos fp0 fq0 flen fma fmb hba hbb hka hkb hca hcb mga mgb hlo hgo hne hrx hp0 hPl
      gi_wp2
      gi_loopw [29] (fun iv wr => ∃ (i : Nat) (vl vg vp : Value) (Ll Lg : List PzV) (Lp : List PaV), iv = .int .i64 (i : Int) ∧ i ≤ n ∧ MemV (fun k => M k ∨ k = Px) w.heap.size w.heap.size wr vl vg vp Ll Lg Lp ∧ StepV (fun k => M k ∨ k = Px) W wr ∧ Ll.map PzV.m = r0.lost ∧ Lg.map PzV.m = r0.gained ∧
          (diffsZ (xat + i) (la.drop i) (lb.drop i)).foldl pushD (Lp.map PaV.m) = (diffsZ xat la lb).foldl pushD r0.patches ∧ Lp.length ≤ r0.patches.length + i) (fun iv _ => n - (intOf iv).toNat)
      case atStart =>
        have hz := HB.out.2.1
        unfold rzV at hz
        have e1 : Ll.map PzV.m = r0.lost := by rw [← hz]
        have e2 : Lg.map PzV.m = r0.gained := by rw [← hz]
        have e3 : Lp.map PaV.m = r0.patches := by rw [← hz]
        exact ⟨0, vl, vg, vp, Ll, Lg, Lp, rfl, Nat.zero_le _, HB.out.1, StepV.refl _ _, e1, e2, by rw [e3]; rfl, by rw [← e3, List.length_map]; exact Nat.le_refl _⟩
      case round =>
        obtain ⟨i, vl, vg, vp, Ll, Lg, Lp, rfl, hi, hmv, hst, e1, e2, e3, e4⟩ := hrel
        have hn90 : n ≤ 90000 := by have := HB.out.2.2.2.2.2.1; omega
        by_cases hlt : i < n
        · have hn := HB.out.2.2.2.2.2.2.2.1
          obtain ⟨ba, hba⟩ : ∃ b, la[i]? = some b := ⟨_, List.getElem?_eq_getElem (by omega)⟩
          obtain ⟨bb, hbb⟩ : ∃ b, lb[i]? = some b := ⟨_, List.getElem?_eq_getElem (by rw [hln2.out, ← hn]; omega)⟩
          obtain ⟨hr, hca, hcb⟩ := HB.out.2.2.2.2.1 wr hst
          have ca := hca i ba hba
          have cb := hcb i bb hbb
          have y0 : wr.cell? ⟨Px, 0, none⟩ = some (.int .u64 (xat : Int)) := hr.cell 0
          have y1 : wr.cell? ⟨Px, 1, none⟩ = some (.slice (some ⟨ga, oa, none⟩) n xca) := hr.cell 1
          have y2 : wr.cell? ⟨Px, 2, none⟩ = some (.slice (some ⟨gb, ob, none⟩) n xcb) := hr.cell 2
          have hd := diffs_drop (a := xat) hba hbb
          have hltz : decide ((i : Int) < (n : Int)) = true := by rw [decide_eq_true_eq]; omega
          have hltz2 : decide (i < n) = true := by rw [decide_eq_true_eq]; omega
          have i1 : (0 : Int) ≤ (i : Int) := by omega
          have i2 : (i : Int) < (n : Int) := by omega
          have hwk : IntKind.i64.wrap ((i : Int) + 1) = ((i + 1 : Nat) : Int) := (IntWalk.i64_in _ (by omega)).trans (by omega)
          have HR := hid (And.intro hmv (And.intro hst (And.intro e1 (And.intro e2 (And.intro e3 (And.intro e4 (And.intro hd hi)))))))
          clear hmv hst e1 e2 e3 e4 hd hi hr hca hcb hba hbb hn x1
          gi_wp2
          by_cases hxy : ba = bb
          · have hb0 : ((ba.toNat : Int) != (bb.toNat : Int)) = false := by rw [hxy]; simp
            have HXY := hid hxy
            clear hxy
            refine regionG_round (fun W => W.cell? ⟨Px, 1, none⟩ = some (.slice (some ⟨ga, oa, none⟩) n xca) ∧ W.cell? ⟨Px, 2, none⟩ = some (.slice (some ⟨gb, ob, none⟩) n xcb) ∧ W.cell? ⟨ga, oa + i, none⟩ = some (.int .u8 (ba.toNat : Int)) ∧ W.cell? ⟨gb, ob + i, none⟩ = some (.int .u8 (bb.toNat : Int))) [] (by kernel_rfl) (by kernel_rfl) (fun ⟨_, _, h⟩ => h) ?_
            have hS : (fun W => W.cell? ⟨Px, 1, none⟩ = some (.slice (some ⟨ga, oa, none⟩) n xca) ∧ W.cell? ⟨Px, 2, none⟩ = some (.slice (some ⟨gb, ob, none⟩) n xcb) ∧ W.cell? ⟨ga, oa + i, none⟩ = some (.int .u8 (ba.toNat : Int)) ∧ W.cell? ⟨gb, ob + i, none⟩ = some (.int .u8 (bb.toNat : Int))) wr.drew := ⟨y1, y2, ca, cb⟩
            clear y0 y1 y2 ca cb
            refine takeW (i := 0) rfl (by kernel_rfl) (by kernel_rfl) (by kernel_rfl) (by kernel_rfl) (fun _ _ _ h => h) (.inr hS) (.inl ⟨by rfl, by intro _ _; go_simp; with_reducible rfl⟩) ?_
            try simp only [Act.put, List.setIfInBounds_toArray, List.set_cons_zero, List.set_cons_succ]
            refine takeL (i := 1) rfl (by kernel_rfl) (by kernel_rfl) (by kernel_rfl) (by kernel_rfl) (by kernel_rfl) (by kernel_rfl) (by kernel_rfl) (fun _ _ _ h => h) hS (.inl ⟨by rfl, by intro _ hSw; (try dsimp only at hSw); go_simp; with_reducible rfl⟩) ?_
            try simp only [Act.put, List.setIfInBounds_toArray, List.set_cons_zero, List.set_cons_succ]
            refine takeW (i := 2) rfl (by kernel_rfl) (by kernel_rfl) (by kernel_rfl) (by kernel_rfl) (fun _ _ _ h => h) (.inr hS) (.inl ⟨by rfl, by intro _ _; go_simp; with_reducible rfl⟩) ?_
            try simp only [Act.put, List.setIfInBounds_toArray, List.set_cons_zero, List.set_cons_succ]
            refine takeW (i := 3) rfl (by kernel_rfl) (by kernel_rfl) (by kernel_rfl) (by kernel_rfl) (fun _ _ _ h => h) (.inr hS) (.inl ⟨by rfl, by intro _ _; go_simp; with_reducible rfl⟩) ?_
            try simp only [Act.put, List.setIfInBounds_toArray, List.set_cons_zero, List.set_cons_succ]
            refine takeL (i := 4) rfl (by kernel_rfl) (by kernel_rfl) (by kernel_rfl) (by kernel_rfl) (by kernel_rfl) (by kernel_rfl) (by kernel_rfl) (fun _ _ _ h => h) hS (.inl ⟨by rfl, by intro _ hSw; (try dsimp only at hSw); go_simp; with_reducible rfl⟩) ?_
            try simp only [Act.put, List.setIfInBounds_toArray, List.set_cons_zero, List.set_cons_succ]
            refine takeW (i := 5) rfl (by kernel_rfl) (by kernel_rfl) (by kernel_rfl) (by kernel_rfl) (fun _ _ _ h => h) (.inr hS) (.inl ⟨by rfl, by intro _ _; go_simp; with_reducible rfl⟩) ?_
            try simp only [Act.put, List.setIfInBounds_toArray, List.set_cons_zero, List.set_cons_succ]
            refine takeL (i := 6) rfl (by kernel_rfl) (by kernel_rfl) (by kernel_rfl) (by kernel_rfl) (by kernel_rfl) (by kernel_rfl) (by kernel_rfl) (fun _ _ _ h => h) hS (.inl ⟨by rfl, by intro _ hSw; (try dsimp only at hSw); go_simp; with_reducible rfl⟩) ?_
            try simp only [Act.put, List.setIfInBounds_toArray, List.set_cons_zero, List.set_cons_succ]
            refine takeW (i := 7) rfl (by kernel_rfl) (by kernel_rfl) (by kernel_rfl) (by kernel_rfl) (fun _ _ _ h => h) (.inr hS) (.inl ⟨by rfl, by intro _ _; go_simp; with_reducible rfl⟩) ?_
            try simp only [Act.put, List.setIfInBounds_toArray, List.set_cons_zero, List.set_cons_succ]
            refine takeW (i := 8) rfl (by kernel_rfl) (by kernel_rfl) (by kernel_rfl) (by kernel_rfl) (fun _ _ _ h => h) (.inr hS) (.inl ⟨by rfl, by intro _ _; go_simp; with_reducible rfl⟩) ?_
            try simp only [Act.put, List.setIfInBounds_toArray, List.set_cons_zero, List.set_cons_succ]
            refine takeL (i := 9) rfl (by kernel_rfl) (by kernel_rfl) (by kernel_rfl) (by kernel_rfl) (by kernel_rfl) (by kernel_rfl) (by kernel_rfl) (fun _ _ _ h => h) hS (.inl ⟨by rfl, by intro _ hSw; (try dsimp only at hSw); go_simp; with_reducible rfl⟩) ?_
            try simp only [Act.put, List.setIfInBounds_toArray, List.set_cons_zero, List.set_cons_succ]
            refine takeW (i := 10) rfl (by kernel_rfl) (by kernel_rfl) (by kernel_rfl) (by kernel_rfl) (fun _ _ _ h => h) (.inr hS) (.inl ⟨by rfl, by intro _ _; go_simp; with_reducible rfl⟩) ?_
            try simp only [Act.put, List.setIfInBounds_toArray, List.set_cons_zero, List.set_cons_succ]
            refine doneG (by kernel_rfl) ?_ _
            clear hS
            gi_wp2
            have hd := HR.out.2.2.2.2.2.2.1
            rw [if_pos HXY.out] at hd
            exact ⟨⟨i + 1, vl, vg, vp, Ll, Lg, Lp, by go_num, by omega, HR.out.1.below (below_drewP _), HR.out.2.1.trans (StepV.below (below_drewP _)), HR.out.2.2.1, HR.out.2.2.2.1, by rw [← hd]; exact HR.out.2.2.2.2.1, by have := HR.out.2.2.2.2.2.1; omega⟩, by simp [intOf]; omega⟩
          · have hb0 : ((ba.toNat : Int) != (bb.toNat : Int)) = true := by
              simp only [bne_iff_ne]
              intro e
              exact hxy (UInt8.toNat_inj.1 (by omega))
            have HXY := hid hxy
            clear hxy
            refine regionG_round (fun W => W.cell? ⟨Px, 1, none⟩ = some (.slice (some ⟨ga, oa, none⟩) n xca) ∧ W.cell? ⟨Px, 2, none⟩ = some (.slice (some ⟨gb, ob, none⟩) n xcb) ∧ W.cell? ⟨ga, oa + i, none⟩ = some (.int .u8 (ba.toNat : Int)) ∧ W.cell? ⟨gb, ob + i, none⟩ = some (.int .u8 (bb.toNat : Int))) [] (by kernel_rfl) (by kernel_rfl) (fun ⟨_, _, h⟩ => h) ?_
            have hS : (fun W => W.cell? ⟨Px, 1, none⟩ = some (.slice (some ⟨ga, oa, none⟩) n xca) ∧ W.cell? ⟨Px, 2, none⟩ = some (.slice (some ⟨gb, ob, none⟩) n xcb) ∧ W.cell? ⟨ga, oa + i, none⟩ = some (.int .u8 (ba.toNat : Int)) ∧ W.cell? ⟨gb, ob + i, none⟩ = some (.int .u8 (bb.toNat : Int))) wr.drew := ⟨y1, y2, ca, cb⟩
            refine takeW (i := 0) rfl (by kernel_rfl) (by kernel_rfl) (by kernel_rfl) (by kernel_rfl) (fun _ _ _ h => h) (.inr hS) (.inl ⟨by rfl, by intro _ _; go_simp; with_reducible rfl⟩) ?_
            try simp only [Act.put, List.setIfInBounds_toArray, List.set_cons_zero, List.set_cons_succ]
            refine takeL (i := 1) rfl (by kernel_rfl) (by kernel_rfl) (by kernel_rfl) (by kernel_rfl) (by kernel_rfl) (by kernel_rfl) (by kernel_rfl) (fun _ _ _ h => h) hS (.inl ⟨by rfl, by intro _ hSw; (try dsimp only at hSw); go_simp; with_reducible rfl⟩) ?_
            try simp only [Act.put, List.setIfInBounds_toArray, List.set_cons_zero, List.set_cons_succ]
            refine takeW (i := 2) rfl (by kernel_rfl) (by kernel_rfl) (by kernel_rfl) (by kernel_rfl) (fun _ _ _ h => h) (.inr hS) (.inl ⟨by rfl, by intro _ _; go_simp; with_reducible rfl⟩) ?_
            try simp only [Act.put, List.setIfInBounds_toArray, List.set_cons_zero, List.set_cons_succ]
            refine takeW (i := 3) rfl (by kernel_rfl) (by kernel_rfl) (by kernel_rfl) (by kernel_rfl) (fun _ _ _ h => h) (.inr hS) (.inl ⟨by rfl, by intro _ _; go_simp; with_reducible rfl⟩) ?_
            try simp only [Act.put, List.setIfInBounds_toArray, List.set_cons_zero, List.set_cons_succ]
            refine takeL (i := 4) rfl (by kernel_rfl) (by kernel_rfl) (by kernel_rfl) (by kernel_rfl) (by kernel_rfl) (by kernel_rfl) (by kernel_rfl) (fun _ _ _ h => h) hS (.inl ⟨by rfl, by intro _ hSw; (try dsimp only at hSw); go_simp; with_reducible rfl⟩) ?_
            try simp only [Act.put, List.setIfInBounds_toArray, List.set_cons_zero, List.set_cons_succ]
            refine takeW (i := 5) rfl (by kernel_rfl) (by kernel_rfl) (by kernel_rfl) (by kernel_rfl) (fun _ _ _ h => h) (.inr hS) (.inl ⟨by rfl, by intro _ _; go_simp; with_reducible rfl⟩) ?_
            try simp only [Act.put, List.setIfInBounds_toArray, List.set_cons_zero, List.set_cons_succ]
            refine takeL (i := 6) rfl (by kernel_rfl) (by kernel_rfl) (by kernel_rfl) (by kernel_rfl) (by kernel_rfl) (by kernel_rfl) (by kernel_rfl) (fun _ _ _ h => h) hS (.inl ⟨by rfl, by intro _ hSw; (try dsimp only at hSw); go_simp; with_reducible rfl⟩) ?_
            try simp only [Act.put, List.setIfInBounds_toArray, List.set_cons_zero, List.set_cons_succ]
            refine takeW (i := 7) rfl (by kernel_rfl) (by kernel_rfl) (by kernel_rfl) (by kernel_rfl) (fun _ _ _ h => h) (.inr hS) (.inl ⟨by rfl, by intro _ _; go_simp; with_reducible rfl⟩) ?_
            try simp only [Act.put, List.setIfInBounds_toArray, List.set_cons_zero, List.set_cons_succ]
            refine takeW (i := 8) rfl (by kernel_rfl) (by kernel_rfl) (by kernel_rfl) (by kernel_rfl) (fun _ _ _ h => h) (.inr hS) (.inl ⟨by rfl, by intro _ _; go_simp; with_reducible rfl⟩) ?_
            try simp only [Act.put, List.setIfInBounds_toArray, List.set_cons_zero, List.set_cons_succ]
            refine takeL (i := 9) rfl (by kernel_rfl) (by kernel_rfl) (by kernel_rfl) (by kernel_rfl) (by kernel_rfl) (by kernel_rfl) (by kernel_rfl) (fun _ _ _ h => h) hS (.inl ⟨by rfl, by intro _ hSw; (try dsimp only at hSw); go_simp; with_reducible rfl⟩) ?_
            try simp only [Act.put, List.setIfInBounds_toArray, List.set_cons_zero, List.set_cons_succ]
            refine takeW (i := 10) rfl (by kernel_rfl) (by kernel_rfl) (by kernel_rfl) (by kernel_rfl) (fun _ _ _ h => h) (.inr hS) (.inl ⟨by rfl, by intro _ _; go_simp; with_reducible rfl⟩) ?_
            try simp only [Act.put, List.setIfInBounds_toArray, List.set_cons_zero, List.set_cons_succ]
            refine doneG (by kernel_rfl) ?_ _
            clear hS
            gi_wp2
            obtain ⟨W5, hW5⟩ : ∃ W5 : World, W5 = wr.drew.drew := ⟨_, rfl⟩
            have hb5 : Below wr.heap.size wr W5 := by rw [hW5]; exact (below_drewP wr).trans ((below_drewP wr.drew).mono (Nat.le_refl _))
            have hmv5 := HR.out.1.below hb5
            obtain ⟨q1, q2, q3, rfl⟩ := own_form hmv5.p.own
            have hpl : Lp.length ≤ 90000 := by have := HR.out.2.2.2.2.2.1; have := HB.out.2.2.2.2.2.1; omega
            have hmx := HB.out.2.2.2.2.2.2.1
            have hmax : xat + i + 1 ≤ MAXA := by omega
            have hcall := bd_patch W5 (blkPa (.slice q1 q2 q3) Lp) hmv5.p.blt _ Lp hmv5.p (by omega) (xat + i) ba bb hmax
            simp only [Int.natCast_add] at hcall
            have e1 : IntKind.u64.wrap (i : Int) = (i : Int) := IntWalk.u64_in _ (by omega)
            have e2 : IntKind.u64.wrap ((xat : Int) + (i : Int)) = (xat : Int) + (i : Int) := IntWalk.u64_in _ (by unfold MAXA at hmax; omega)
            have r2 : W5.cell? ⟨w.heap.size, 2, none⟩ = some (.slice q1 q2 q3) := hmv5.row.cell 2
            have z0 := below_cell' hb5 (World.block_lt_of_cell? wr _ y0) y0
            have z1 := below_cell' hb5 (World.block_lt_of_cell? wr _ y1) y1
            have z2 := below_cell' hb5 (World.block_lt_of_cell? wr _ y2) y2
            have z3 := below_cell' hb5 (World.block_lt_of_cell? wr _ ca) ca
            have z4 := below_cell' hb5 (World.block_lt_of_cell? wr _ cb) cb
            have HC := hid (And.intro hcall (And.intro hmv5 (And.intro hb5 hpl)))
            refine regionG_round (fun W => W.cell? ⟨w.heap.size, 2, none⟩ = some (.slice q1 q2 q3) ∧ W.cell? ⟨Px, 0, none⟩ = some (.int .u64 (xat : Int)) ∧ W.cell? ⟨Px, 1, none⟩ = some (.slice (some ⟨ga, oa, none⟩) n xca) ∧ W.cell? ⟨Px, 2, none⟩ = some (.slice (some ⟨gb, ob, none⟩) n xcb) ∧ W.cell? ⟨ga, oa + i, none⟩ = some (.int .u8 (ba.toNat : Int)) ∧ W.cell? ⟨gb, ob + i, none⟩ = some (.int .u8 (bb.toNat : Int))) [17, 19] (by kernel_rfl) (by kernel_rfl) (fun ⟨_, _, h⟩ => h) ?_
            rw [← hW5]
            have hS : (fun W => W.cell? ⟨w.heap.size, 2, none⟩ = some (.slice q1 q2 q3) ∧ W.cell? ⟨Px, 0, none⟩ = some (.int .u64 (xat : Int)) ∧ W.cell? ⟨Px, 1, none⟩ = some (.slice (some ⟨ga, oa, none⟩) n xca) ∧ W.cell? ⟨Px, 2, none⟩ = some (.slice (some ⟨gb, ob, none⟩) n xcb) ∧ W.cell? ⟨ga, oa + i, none⟩ = some (.int .u8 (ba.toNat : Int)) ∧ W.cell? ⟨gb, ob + i, none⟩ = some (.int .u8 (bb.toNat : Int))) W5 := ⟨r2, z0, z1, z2, z3, z4⟩
            clear hW5 hcall hmv5 hb5 y0 y1 y2 ca cb r2 z0 z1 z2 z3 z4 hmx hmax hpl
            refine takeW (i := 0) rfl (by kernel_rfl) (by kernel_rfl) (by kernel_rfl) (by kernel_rfl) (fun _ _ _ h => h) (.inr hS) (.inl ⟨by rfl, by intro _ _; go_simp; with_reducible rfl⟩) ?_
            try simp only [Act.put, List.setIfInBounds_toArray, List.set_cons_zero, List.set_cons_succ]
            refine takeL (i := 1) rfl (by kernel_rfl) (by kernel_rfl) (by kernel_rfl) (by kernel_rfl) (by kernel_rfl) (by kernel_rfl) (by kernel_rfl) (fun _ _ _ h => h) hS (.inl ⟨by rfl, by intro _ hSw; (try dsimp only at hSw); go_simp; with_reducible rfl⟩) ?_
            try simp only [Act.put, List.setIfInBounds_toArray, List.set_cons_zero, List.set_cons_succ]
            refine takeW (i := 2) rfl (by kernel_rfl) (by kernel_rfl) (by kernel_rfl) (by kernel_rfl) (fun _ _ _ h => h) (.inr hS) (.inl ⟨by rfl, by intro _ _; go_simp; with_reducible rfl⟩) ?_
            try simp only [Act.put, List.setIfInBounds_toArray, List.set_cons_zero, List.set_cons_succ]
            refine takeL (i := 3) rfl (by kernel_rfl) (by kernel_rfl) (by kernel_rfl) (by kernel_rfl) (by kernel_rfl) (by kernel_rfl) (by kernel_rfl) (fun _ _ _ h => h) hS (.inl ⟨by rfl, by intro _ hSw; (try dsimp only at hSw); go_simp; with_reducible rfl⟩) ?_
            try simp only [Act.put, List.setIfInBounds_toArray, List.set_cons_zero, List.set_cons_succ]
            refine takeW (i := 4) rfl (by kernel_rfl) (by kernel_rfl) (by kernel_rfl) (by kernel_rfl) (fun _ _ _ h => h) (.inr hS) (.inl ⟨by rfl, by intro _ _; go_simp; with_reducible rfl⟩) ?_
            try simp only [Act.put, List.setIfInBounds_toArray, List.set_cons_zero, List.set_cons_succ]
            refine takeW (i := 5) rfl (by kernel_rfl) (by kernel_rfl) (by kernel_rfl) (by kernel_rfl) (fun _ _ _ h => h) (.inr hS) (.inl ⟨by rfl, by intro _ _; go_simp; with_reducible rfl⟩) ?_
            try simp only [Act.put, List.setIfInBounds_toArray, List.set_cons_zero, List.set_cons_succ]
            refine takeW (i := 6) rfl (by kernel_rfl) (by kernel_rfl) (by kernel_rfl) (by kernel_rfl) (fun _ _ _ h => h) (.inr hS) (.inl ⟨by rfl, by intro _ _; go_simp; with_reducible rfl⟩) ?_
            try simp only [Act.put, List.setIfInBounds_toArray, List.set_cons_zero, List.set_cons_succ]
            refine takeW (i := 7) rfl (by kernel_rfl) (by kernel_rfl) (by kernel_rfl) (by kernel_rfl) (fun _ _ _ h => h) (.inr hS) (.inl ⟨by rfl, by intro _ _; go_simp; with_reducible rfl⟩) ?_
            try simp only [Act.put, List.setIfInBounds_toArray, List.set_cons_zero, List.set_cons_succ]
            refine takeL (i := 8) rfl (by kernel_rfl) (by kernel_rfl) (by kernel_rfl) (by kernel_rfl) (by kernel_rfl) (by kernel_rfl) (by kernel_rfl) (fun _ _ _ h => h) hS (.inl ⟨by rfl, by intro _ hSw; (try dsimp only at hSw); go_simp; with_reducible rfl⟩) ?_
            try simp only [Act.put, List.setIfInBounds_toArray, List.set_cons_zero, List.set_cons_succ]
            refine takeW (i := 9) rfl (by kernel_rfl) (by kernel_rfl) (by kernel_rfl) (by kernel_rfl) (fun _ _ _ h => h) (.inr hS) (.inl ⟨by rfl, by intro _ _; go_simp; with_reducible rfl⟩) ?_
            try simp only [Act.put, List.setIfInBounds_toArray, List.set_cons_zero, List.set_cons_succ]
            refine takeW (i := 10) rfl (by kernel_rfl) (by kernel_rfl) (by kernel_rfl) (by kernel_rfl) (fun _ _ _ h => h) (.inr hS) (.inl ⟨by rfl, by intro _ _; go_simp; with_reducible rfl⟩) ?_
            try simp only [Act.put, List.setIfInBounds_toArray, List.set_cons_zero, List.set_cons_succ]
            refine takeL (i := 11) rfl (by kernel_rfl) (by kernel_rfl) (by kernel_rfl) (by kernel_rfl) (by kernel_rfl) (by kernel_rfl) (by kernel_rfl) (fun _ _ _ h => h) hS (.inl ⟨by rfl, by intro _ hSw; (try dsimp only at hSw); go_simp; with_reducible rfl⟩) ?_
            try simp only [Act.put, List.setIfInBounds_toArray, List.set_cons_zero, List.set_cons_succ]
            refine takeW (i := 12) rfl (by kernel_rfl) (by kernel_rfl) (by kernel_rfl) (by kernel_rfl) (fun _ _ _ h => h) (.inr hS) (.inl ⟨by rfl, by intro _ _; go_simp; with_reducible rfl⟩) ?_
            try simp only [Act.put, List.setIfInBounds_toArray, List.set_cons_zero, List.set_cons_succ]
            refine takeL (i := 13) rfl (by kernel_rfl) (by kernel_rfl) (by kernel_rfl) (by kernel_rfl) (by kernel_rfl) (by kernel_rfl) (by kernel_rfl) (fun _ _ _ h => h) hS (.inl ⟨by rfl, by intro _ hSw; (try dsimp only at hSw); go_simp; with_reducible rfl⟩) ?_
            try simp only [Act.put, List.setIfInBounds_toArray, List.set_cons_zero, List.set_cons_succ]
            refine takeW (i := 14) rfl (by kernel_rfl) (by kernel_rfl) (by kernel_rfl) (by kernel_rfl) (fun _ _ _ h => h) (.inr hS) (.inl ⟨by rfl, by intro _ _; go_simp; with_reducible rfl⟩) ?_
            try simp only [Act.put, List.setIfInBounds_toArray, List.set_cons_zero, List.set_cons_succ]
            refine takeW (i := 15) rfl (by kernel_rfl) (by kernel_rfl) (by kernel_rfl) (by kernel_rfl) (fun _ _ _ h => h) (.inr hS) (.inl ⟨by rfl, by intro _ _; go_simp; with_reducible rfl⟩) ?_
            try simp only [Act.put, List.setIfInBounds_toArray, List.set_cons_zero, List.set_cons_succ]
            refine takeL (i := 16) rfl (by kernel_rfl) (by kernel_rfl) (by kernel_rfl) (by kernel_rfl) (by kernel_rfl) (by kernel_rfl) (by kernel_rfl) (fun _ _ _ h => h) hS (.inl ⟨by rfl, by intro _ hSw; (try dsimp only at hSw); go_simp; with_reducible rfl⟩) ?_
            try simp only [Act.put, List.setIfInBounds_toArray, List.set_cons_zero, List.set_cons_succ]
            refine readyG (rs := [17]) (by kernel_rfl) (by simp) (consG rfl (fun K hK => ?_) nilG)
            go_simp
            refine HC.out.1.mono ?_
            rintro e w6 ⟨v6, L6, rfl, ho6, hm6, hi6⟩
            obtain ⟨p1, p2, p3, rfl⟩ := own_form ho6.own
            obtain ⟨hmv6, hst6⟩ := HC.out.2.1.putP (Nat.le_trans HB.out.2.2.2.2.2.2.2.2.2.2 (Nat.le_trans HR.out.2.1.kept.size HC.out.2.2.1.size)) (fun k hk => Nat.lt_of_lt_of_le (HB.out.2.2.1 k hk) (Nat.le_trans HR.out.2.1.kept.size HC.out.2.2.1.size)) ho6 hi6
            have r6 : RowAt w6 w.heap.size 27 _ := (hi6.keep w.heap.size HC.out.2.1.row.lt (fun h => (HC.out.2.1.dp _ h).2.1 rfl)).trans HC.out.2.1.row
            have c6 : w6.cell? ⟨w.heap.size, 2, none⟩ = some (.slice q1 q2 q3) := r6.cell 2
            have f6 := r6.own 2
            have H6 := hid (And.intro hmv6 (And.intro hst6 hm6))
            clear ho6 hi6 hm6 hmv6 hst6 r6 hS
            dsimp only
            refine hK.out _ _ (.inl (by kernel_rfl)) ?_
            clear hK K
            try simp only [Act.put, List.setIfInBounds_toArray, List.set_cons_zero, List.set_cons_succ]
            refine takeW (i := 18) rfl (by kernel_rfl) (by kernel_rfl) (by kernel_rfl) (by kernel_rfl) (fun _ _ _ h => h) (.inl (by kernel_rfl)) (.inl ⟨by rfl, by intro _ _; go_simp; with_reducible rfl⟩) ?_
            try simp only [Act.put, List.setIfInBounds_toArray, List.set_cons_zero, List.set_cons_succ]
            refine readyG (rs := [19]) (by kernel_rfl) (by simp) (consG rfl (fun K hK => ?_) nilG)
            go_simp
            refine hK.out _ _ (.inl (by kernel_rfl)) ?_
            clear hK K c6 f6
            refine doneG (by kernel_rfl) ?_ _
            gi_wp2
            have hd := HR.out.2.2.2.2.2.2.1
            rw [if_neg HXY.out] at hd
            have hl6 := pushD_len (Lp.map PaV.m) ⟨xat + i, ba, bb⟩
            rw [← H6.out.2.2, List.length_map, List.length_map] at hl6
            exact ⟨⟨i + 1, vl, vg, _, Ll, Lg, L6, by go_num, by omega, H6.out.1, (HR.out.2.1.trans (StepV.below HC.out.2.2.1)).trans H6.out.2.1, HR.out.2.2.1, HR.out.2.2.2.1, by rw [H6.out.2.2, ← HR.out.2.2.2.2.1, hd]; rfl, by have := HR.out.2.2.2.2.2.1; omega⟩, by simp [intOf]; omega⟩
        · have hltz : decide ((i : Int) < (n : Int)) = false := by rw [decide_eq_false_iff_not]; omega
          have hltz2 : decide (i < n) = false := by rw [decide_eq_false_iff_not]; omega
          have hin : i = n := by omega
          have hn := HB.out.2.2.2.2.2.2.2.1
          rw [hin, diffs_nil (List.drop_eq_nil_of_le (by omega))] at e3
          have hfin := HB.out.2.2.2.1 wr vl vg vp Ll Lg Lp hmv hst (by rw [HB.out.2.2.2.2.2.2.2.2.1]; unfold rzV; rw [e1, e2, ← e3]; rfl)
          have HF := hid hfin
          clear hmv hst e1 e2 e3 e4 hin hn hfin x1
          gi_wp2
          exact HF.out
    · have hneq : (xp == xq) = false := by simp only [beq_eq_false_iff_ne]; exact hpq
      have x0 : W.cell? ⟨Px, 0, none⟩ = some (.int .u64 (xat : Int)) := hrx.cell 0
      have x1 : W.cell? ⟨Px, 1, none⟩ = some (.slice xpa la.length xca) := hrx.cell 1
      have x2 : W.cell? ⟨Px, 2, none⟩ = some (.slice xpb lb.length xcb) := hrx.cell 2
      obtain ⟨l1, l2, l3, rfl⟩ := own_form hmv.l.own
      obtain ⟨g1, g2, g3, rfl⟩ := own_form hmv.g.own
      have c0 : W.cell? ⟨w.heap.size, 0, none⟩ = some (.slice l1 l2 l3) := hmv.row.cell 0
      have c1 : W.cell? ⟨w.heap.size, 1, none⟩ = some (.slice g1 g2 g3) := hmv.row.cell 1
      have hLl : Ll.map PzV.m = r0.lost := by unfold rzV at hz; rw [← hz]
      have hLg : Lg.map PzV.m = r0.gained := by unfold rzV at hz; rw [← hz]
      have hLp : Lp.map PaV.m = r0.patches := by unfold rzV at hz; rw [← hz]
      have hll : Ll.length ≤ 100000 := by rw [← hLl, List.length_map] at hlo; exact hlo
      have hgl : Lg.length ≤ 100000 := by rw [← hLg, List.length_map] at hgo; exact hgo
      have hstep : stepZ r0 ⟨xat, la, lb, xp, xq⟩ = ⟨if 0 < xp then putP r0.lost xat xp la else r0.lost, if 0 < xq then putP r0.gained xat xq lb else r0.gained, r0.patches⟩ := by unfold stepZ; rw [if_neg hpq]
      have hcell : ∀ wr, StepV (fun k => M k ∨ k = Px) W wr → RowAt wr Px 81 #[.int .u64 (xat : Int), .slice xpa la.length xca, .slice xpb lb.length xcb, .int .i64 xp, .int .i64 xq] ∧ BS wr (.slice xpb lb.length xcb) lb := fun wr hs =>
        ⟨(hs.kept.keep Px hPl (.inr rfl)).trans hrx, hbb.of_block (fun k hk hk2 => hs.kept.keep k hk2 (.inl (hkb k hk)))⟩
      have hputL : 0 < xp → Calls Tryz.prog 21 #[.slice l1 l2 l3, .int .u64 (xat : Int), .int .i64 xp, .slice xpa la.length xca] W (PutEnd (blkPz (.slice l1 l2 l3) Ll) W Ll xat xp la) := fun hp => bd_put W _ hmv.l.blt _ Ll hmv.l (by omega) xat xp xpa xca la hba (fa hp) (fma (fa hp))
      have hputG : 0 < xq → ∀ W5 vl5 vp5 Ll5 Lp5, MemV (fun k => M k ∨ k = Px) w.heap.size w.heap.size W5 vl5 (.slice g1 g2 g3) vp5 Ll5 Lg Lp5 → StepV (fun k => M k ∨ k = Px) W W5 → Calls Tryz.prog 21 #[.slice g1 g2 g3, .int .u64 (xat : Int), .int .i64 xq, .slice xpb lb.length xcb] W5 (PutEnd (blkPz (.slice g1 g2 g3) Lg) W5 Lg xat xq lb) :=
        fun hq W5 vl5 vp5 Ll5 Lp5 h5 hs5 => bd_put W5 _ h5.g.blt _ Lg h5.g (by omega) xat xq xpb xcb lb (hcell W5 hs5).2 (fb hq) (fmb (fb hq))
      have HB := hid (And.intro hmv (And.intro hM' (And.intro hpost (And.intro hcell (And.intro hBW (And.intro hstep (And.intro hLl (And.intro hLg (And.intro hLp (And.intro hputL hputG))))))))))
      clear hmv hM' hpost hcell hBW hstep hLl hLg hLp hputL hputG hz hrx hba hbb hka hkb fa fb flen fma fmb hlo hgo hpo hPl hpq hll hgl
      dsimp only [PtV.v, PtV.sa, PtV.sb]
      by_cases hp : 0 < xp
      · have hpd : decide ((0 : Int) < xp) = true := decide_eq_true hp
        gi_wp2
        refine ⟨trivial, CallsIn.inRound l (callsIn_wide.2 ((HB.out.2.2.2.2.2.2.2.2.2.1 hp).mono ?_))⟩
        rintro e w5 ⟨v5, L5, rfl, ho5, hm5, hi5⟩
        obtain ⟨j1, j2, j3, rfl⟩ := own_form ho5.own
        obtain ⟨hmv5, hst5⟩ := HB.out.1.putL HB.out.2.2.2.2.1 HB.out.2.1 ho5 hi5
        have r5 : RowAt w5 w.heap.size 27 _ := (hi5.keep w.heap.size HB.out.1.row.lt (fun h => (HB.out.1.dl _ h).1.2.1 rfl)).trans HB.out.1.row
        have c5 : w5.cell? ⟨w.heap.size, 0, none⟩ = some (.slice l1 l2 l3) := r5.cell 0
        have f5 := r5.own 0
        obtain ⟨W5, hW5⟩ : ∃ W5, W5 = w5.setCell ⟨w.heap.size, 0, none⟩ (.slice j1 j2 j3) := ⟨_, rfl⟩
        rw [← hW5] at hmv5 hst5
        have hr5 := (HB.out.2.2.2.1 W5 hst5).1
        have y0 : W5.cell? ⟨Px, 0, none⟩ = some (.int .u64 (xat : Int)) := hr5.cell 0
        have y2 : W5.cell? ⟨Px, 2, none⟩ = some (.slice xpb lb.length xcb) := hr5.cell 2
        have y4 : W5.cell? ⟨Px, 4, none⟩ = some (.int .i64 xq) := hr5.cell 4
        have d1 : W5.cell? ⟨w.heap.size, 1, none⟩ = some (.slice g1 g2 g3) := hmv5.row.cell 1
        have H5 := hid (And.intro hmv5 (And.intro hst5 hm5))
        have HW5 := hid hW5.symm
        clear ho5 hi5 hm5 hmv5 hst5 r5 hW5 hr5 x0 x1 x2 x3 x4 c0 c1
        gi_upto_region 14 with fail
        rw [HW5.out]
        clear c5 f5
        by_cases hq : 0 < xq
        · have hqd : decide ((0 : Int) < xq) = true := decide_eq_true hq
          gi_wp2
          refine ⟨trivial, CallsIn.inRound l (callsIn_wide.2 ((HB.out.2.2.2.2.2.2.2.2.2.2 hq _ _ _ _ _ H5.out.1 H5.out.2.1).mono ?_))⟩
          rintro e w6 ⟨v6, L6, rfl, ho6, hm6, hi6⟩
          obtain ⟨p1, p2, p3, rfl⟩ := own_form ho6.own
          obtain ⟨hmv6, hst6⟩ := (H5.out.1).putG (Nat.le_trans HB.out.2.2.2.2.1 (H5.out.2.1).kept.size) (fun k hk => Nat.lt_of_lt_of_le (HB.out.2.1 k hk) (H5.out.2.1).kept.size) ho6 hi6
          have r6 : RowAt w6 w.heap.size 27 _ := (hi6.keep w.heap.size (H5.out.1).row.lt (fun h => ((H5.out.1).dg _ h).1.2.1 rfl)).trans (H5.out.1).row
          have c6 : w6.cell? ⟨w.heap.size, 1, none⟩ = some (.slice g1 g2 g3) := r6.cell 1
          have f6 := r6.own 1
          have hfin := HB.out.2.2.1 _ _ _ _ _ _ _ hmv6 ((H5.out.2.1).trans hst6) (by rw [HB.out.2.2.2.2.2.1, if_pos hq]; unfold rzV; rw [hm6, HB.out.2.2.2.2.2.2.2.1, HB.out.2.2.2.2.2.2.2.2.1, if_pos hp, H5.out.2.2, HB.out.2.2.2.2.2.2.1])
          have HF := hid hfin
          clear ho6 hi6 hm6 hmv6 hst6 r6 hfin
          gi_wp2
          exact HF.out
        · have hqd : decide ((0 : Int) < xq) = false := decide_eq_false hq
          have hfin := HB.out.2.2.1 _ _ _ _ _ _ _ H5.out.1 H5.out.2.1 (by rw [HB.out.2.2.2.2.2.1, if_neg hq]; unfold rzV; rw [HB.out.2.2.2.2.2.2.2.1, HB.out.2.2.2.2.2.2.2.2.1, if_pos hp, H5.out.2.2, HB.out.2.2.2.2.2.2.1])
          have HF := hid hfin
          clear hfin
          gi_wp2
          exact HF.out
      · have hpd : decide ((0 : Int) < xp) = false := decide_eq_false hp
        have HP := hid hp
        clear hp
        by_cases hq : 0 < xq
        · have hqd : decide ((0 : Int) < xq) = true := decide_eq_true hq
          gi_wp2
          refine ⟨trivial, CallsIn.inRound l (callsIn_wide.2 ((HB.out.2.2.2.2.2.2.2.2.2.2 hq _ _ _ _ _ HB.out.1 (StepV.refl (fun k => M k ∨ k = Px) W)).mono ?_))⟩
          rintro e w6 ⟨v6, L6, rfl, ho6, hm6, hi6⟩
          obtain ⟨p1, p2, p3, rfl⟩ := own_form ho6.own
          obtain ⟨hmv6, hst6⟩ := (HB.out.1).putG (Nat.le_trans HB.out.2.2.2.2.1 ((StepV.refl (fun k => M k ∨ k = Px) W)).kept.size) (fun k hk => Nat.lt_of_lt_of_le (HB.out.2.1 k hk) ((StepV.refl (fun k => M k ∨ k = Px) W)).kept.size) ho6 hi6
          have r6 : RowAt w6 w.heap.size 27 _ := (hi6.keep w.heap.size (HB.out.1).row.lt (fun h => ((HB.out.1).dg _ h).1.2.1 rfl)).trans (HB.out.1).row
          have c6 : w6.cell? ⟨w.heap.size, 1, none⟩ = some (.slice g1 g2 g3) := r6.cell 1
          have f6 := r6.own 1
          have hfin := HB.out.2.2.1 _ _ _ _ _ _ _ hmv6 (((StepV.refl (fun k => M k ∨ k = Px) W)).trans hst6) (by rw [HB.out.2.2.2.2.2.1, if_pos hq]; unfold rzV; rw [hm6, HB.out.2.2.2.2.2.2.2.1, HB.out.2.2.2.2.2.2.2.2.1, if_neg (show ¬ 0 < xp from by have := HP.out; omega), HB.out.2.2.2.2.2.2.1])
          have HF := hid hfin
          clear ho6 hi6 hm6 hmv6 hst6 r6 hfin
          gi_wp2
          exact HF.out
        · have hqd : decide ((0 : Int) < xq) = false := decide_eq_false hq
          have hfin := HB.out.2.2.1 _ _ _ _ _ _ _ HB.out.1 (StepV.refl (fun k => M k ∨ k = Px) W) (by rw [HB.out.2.2.2.2.2.1, if_neg hq]; unfold rzV; rw [HB.out.2.2.2.2.2.2.2.1, HB.out.2.2.2.2.2.2.2.2.1, if_neg (show ¬ 0 < xp from by have := HP.out; omega), HB.out.2.2.2.2.2.2.1])
          have HF := hid hfin
          clear hfin
          gi_wp2
          exact HF.out
  case done =>
    rintro D xs M W hD ⟨hx, hsm⟩ ⟨vl, vg, vp, Ll, Lg, Lp, h, hz, hf⟩ hd
    obtain ⟨l1, l2, l3, rfl⟩ := own_form h.l.own
    obtain ⟨g1, g2, g3, rfl⟩ := own_form h.g.own
    obtain ⟨q1, q2, q3, rfl⟩ := own_form h.p.own
    have c0 : W.cell? ⟨w.heap.size, 0, none⟩ = some (.slice l1 l2 l3) := h.row.cell 0
    have c1 : W.cell? ⟨w.heap.size, 1, none⟩ = some (.slice g1 g2 g3) := h.row.cell 1
    have c2 : W.cell? ⟨w.heap.size, 2, none⟩ = some (.slice q1 q2 q3) := h.row.cell 2
    have f0 := h.row.own 0
    have f1 := h.row.own 1
    have f2 := h.row.own 2
    have s0 : W.setCell ⟨w.heap.size, 0, none⟩ (.slice l1 l2 l3) = W := setCell_selfB (i := 0) h.row rfl
    have s1 : W.setCell ⟨w.heap.size, 1, none⟩ (.slice g1 g2 g3) = W := setCell_selfB (i := 1) h.row rfl
    have s2 : W.setCell ⟨w.heap.size, 2, none⟩ (.slice q1 q2 q3) = W := setCell_selfB (i := 2) h.row rfl
    rw [hx, memory_is H4.out.2.2.2.2.2.2.2.2.1 H4.out.2.2.2.2.2.2.2.2.2 H4.out.2.1] at hz
    have HC := hid (And.intro h (And.intro hz (And.intro hf (And.intro hsm hD))))
    have Hd := hid hd
    clear h hz hf hx hsm hd
    gi_wp2
    refine ⟨by simp, .inl ⟨_, _, rfl, run_takeDeferred Hd.out, ?_⟩⟩
    have hDl : w.heap.size < D := by have := H4.out.2.2.2.2.1.lt; omega
    have hfin := (HC.out.1.keepM (fun _ => False) (fun _ _ _ h => h)).turn (.deferred none) Hd.out rfl
    have hbf : Below w.heap.size w (W.putObj D (.deferred none)) := by
      refine ⟨HC.out.2.2.1.os, HC.out.2.2.1.tape, HC.out.2.2.1.output, by simpa using HC.out.2.2.1.size, fun k hk => ?_⟩
      rw [World.putObj_heap_other (by omega)]
      exact (HC.out.2.2.2.1.blk k ⟨Nat.lt_of_lt_of_le hk H4.out.2.2.2.1.size, by omega⟩).trans (H4.out.2.2.2.1.block k hk)
    have r0 : (W.putObj D (.deferred none)).cell? ⟨w.heap.size, 0, none⟩ = some (.slice l1 l2 l3) := hfin.row.cell 0
    have r1 : (W.putObj D (.deferred none)).cell? ⟨w.heap.size, 1, none⟩ = some (.slice g1 g2 g3) := hfin.row.cell 1
    have r2 : (W.putObj D (.deferred none)).cell? ⟨w.heap.size, 2, none⟩ = some (.slice q1 q2 q3) := hfin.row.cell 2
    have HF := hid (And.intro hfin hbf)
    clear s0 s1 s2 c0 c1 c2 f0 f1 f2 hfin hbf
    refine ⟨.tuple #[.agg #[.slice l1 l2 l3, .slice g1 g2 g3, .slice q1 q2 q3], .int .i64 0], by simp [results, Tryz.results8, go_sem, r0, r1, r2], ?_⟩
    exact ⟨_, _, _, _, Ll, Lg, Lp, rfl, HF.out.2, HF.out.1, HC.out.2.1⟩
  case stop => intro D c pre M W hl hp h hD; exact h.elim
end Go.Proofs.YtjfkgdfmkofbmaaGreatDoor
