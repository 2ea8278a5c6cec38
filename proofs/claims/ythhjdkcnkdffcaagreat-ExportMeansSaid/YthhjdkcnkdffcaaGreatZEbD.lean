/- What stands while all exports are gone over, where the listed variable may be anything. -/
import Derived.Test.YthhjdkcnkdffcaaGreatZEbA
import Derived.Test.YthhjdkcnkdffcaaGreatZDown
import Derived.Test.YthhjdkcnkdffcaaGreatZAllB
import Derived.Test.YthhjdkcnkdffcaaGreatZAllE
import Derived.Test.YthhjdkcnkdffcaaGreatZFindA
import Derived.MapKept
namespace Go.Proofs.YthhjdkcnkdffcaaGreat.Eb
set_option linter.unusedSimpArgs false
set_option linter.unusedVariables false
open Go.RowKit
structure DS (Bad : Prop) (w0 W : World) (B c Q : Nat) (l : List UInt8) (s : Cu) (met : Nat) (out : List Exp) (walk : List Int) (vo vw : Value) : Prop where
  bB : ∃ p cap, RowAt W B 27 #[.slice p l.length cap]
  bC : RowAt W Q 184 #[.pointer (some ⟨c, 0, none⟩)]
  bO : RowAt W (Q + 1) 30 #[vo]
  bW : RowAt W (Q + 2) 66 #[vw]
  bM : RowAt W (Q + 3) 3 #[.int .i64 (met : Int)]
  bD : RowAt W (Q + 4) 186 #[.func (.func 107) #[] (caps B Q)]
  cur : CuAt W c l s
  et0 : EZ Bad w0
  own : W.ownsRow (Q + 5) 25 7 vo out.length (expCells out)
  wal : W.ownsRow (Q + 5) 3 1 vw walk.length (intCells walk)
  apart : Apart vo vw
  low : Below w0.heap.size w0 W
  bc : w0.heap.size ≤ B ∧ B < c ∧ c < Q
section
variable {Bad : Prop} {w0 W W' : World} {B c Q : Nat} {l : List UInt8} {s s' : Cu} {met : Nat} {out : List Exp} {walk : List Int} {vo vw : Value}
theorem DS.top (h : DS Bad w0 W B c Q l s met out walk vo vw) : Q + 4 < W.heap.size := h.bD.lt
theorem DS.vo_ne (h : DS Bad w0 W B c Q l s met out walk vo vw) {k : Nat} (hk : k < Q + 5) : vo.ownBlock ≠ some k := fun e => by have := (World.ownsRow.lt h.own k e).1; omega
theorem DS.vw_ne (h : DS Bad w0 W B c Q l s met out walk vo vw) {k : Nat} (hk : k < Q + 5) : vw.ownBlock ≠ some k := fun e => by have := (World.ownsRow.lt h.wal k e).1; omega
theorem DS.et (h : DS Bad w0 W B c Q l s met out walk vo vw) : EZ Bad W := fun a => by
  have hlt := lt_of_cellB (h.et0 a)
  have := h.et0 a
  unfold ET at this ⊢
  rw [h.low.cell (p := ⟨0, 0, none⟩) hlt]; exact this
/-- Nothing but the cursor, and new blocks. -/
theorem DS.call (h : DS Bad w0 W B c Q l s met out walk vo vw) (hc : CuAt W' c l s') (hg : W.grownBy W' (some c)) : DS Bad w0 W' B c Q l s' met out walk vo vw ∧ Kept W W' c Q vo vo vw vw := by
  have hbc := h.bc
  have htop := h.top
  have ne : ∀ k, k ≠ c → some k ≠ some c := fun k hk e => hk (Option.some.inj e)
  refine ⟨⟨?_, h.bC.grown hg (ne _ (by omega)), h.bO.grown hg (ne _ (by omega)), h.bW.grown hg (ne _ (by omega)), h.bM.grown hg (ne _ (by omega)), h.bD.grown hg (ne _ (by omega)), hc, h.et0,
    h.own.kept hg (.inr (h.vo_ne (by omega))), h.wal.kept hg (.inr (h.vw_ne (by omega))), h.apart, ?_, h.bc⟩, hg.size, fun k hk hkc _ _ _ _ _ => hg.block k hk (ne k hkc), Lies.refl _ _, Lies.refl _ _⟩
  · obtain ⟨p, cap, hB⟩ := h.bB
    exact ⟨p, cap, hB.grown hg (ne _ (by omega))⟩
  · have := h.low.size
    exact h.low.grown hg this (fun k e => by have := Option.some.inj e; omega)
theorem DS.below (h : DS Bad w0 W B c Q l s met out walk vo vw) (hb : Below W.heap.size W W') : DS Bad w0 W' B c Q l s met out walk vo vw ∧ Kept W W' c Q vo vo vw vw :=
  h.call (CurAt.below h.cur hb) (Below.all hb _)
/-- A store into a block of the call's own that is none of these. -/
theorem DS.setK (h : DS Bad w0 W B c Q l s met out walk vo vw) {K i : Nat} (hK : Q + 5 ≤ K) (ho : vo.ownBlock ≠ some K) (hw : vw.ownBlock ≠ some K) (u : Value) : DS Bad w0 (W.setCell ⟨K, i, none⟩ u) B c Q l s met out walk vo vw := by
  have hbc := h.bc
  have hg := grownBy_setB W K i u
  have ne : ∀ k, k ≠ K → some k ≠ some K := fun k hk e => hk (Option.some.inj e)
  refine ⟨?_, h.bC.grown hg (ne _ (by omega)), h.bO.grown hg (ne _ (by omega)), h.bW.grown hg (ne _ (by omega)), h.bM.grown hg (ne _ (by omega)), h.bD.grown hg (ne _ (by omega)), CurAt.setFar h.cur (by omega) u, h.et0,
    ownsRow_setOther h.own ho u, ownsRow_setOther h.wal hw u, h.apart, h.low.setCell (by show w0.heap.size ≤ K; omega) u, h.bc⟩
  obtain ⟨p, cap, hB⟩ := h.bB
  exact ⟨p, cap, hB.grown hg (ne _ (by omega))⟩
/-- One more node was met. -/
theorem DS.setMet (h : DS Bad w0 W B c Q l s met out walk vo vw) (m : Nat) : DS Bad w0 (W.setCell ⟨Q + 3, 0, none⟩ (.int .i64 (m : Int))) B c Q l s m out walk vo vw ∧ Kept W (W.setCell ⟨Q + 3, 0, none⟩ (.int .i64 (m : Int))) c Q vo vo vw vw := by
  have hbc := h.bc
  have hg := grownBy_setB W (Q + 3) 0 (.int .i64 (m : Int))
  have ne : ∀ k, k ≠ Q + 3 → some k ≠ some (Q + 3) := fun k hk e => hk (Option.some.inj e)
  refine ⟨⟨?_, h.bC.grown hg (ne _ (by omega)), h.bO.grown hg (ne _ (by omega)), h.bW.grown hg (ne _ (by omega)), ?_, h.bD.grown hg (ne _ (by omega)), CurAt.setFar h.cur (by omega) _, h.et0,
    ownsRow_setOther h.own (h.vo_ne (by omega)) _, ownsRow_setOther h.wal (h.vw_ne (by omega)) _, h.apart, h.low.setCell (by show w0.heap.size ≤ Q + 3; omega) _, h.bc⟩, hg.size, fun k hk _ _ _ h3 _ _ => hg.block k hk (ne k h3), Lies.refl _ _, Lies.refl _ _⟩
  · obtain ⟨p, cap, hB⟩ := h.bB
    exact ⟨p, cap, hB.grown hg (ne _ (by omega))⟩
  · unfold RowAt; rw [heap_setCell_same _ _ _ _ _ _ h.bM]; rfl
/-- One more export. -/
theorem DS.putOut {vo' : Value} {x : Exp} (h : DS Bad w0 W B c Q l s met out walk vo vw) (hg : Grew W W' vo vo') (ho : W'.ownsRow (Q + 5) 25 7 vo' (out ++ [x]).length (expCells (out ++ [x]))) :
    DS Bad w0 (W'.setCell ⟨Q + 1, 0, none⟩ vo') B c Q l s met (out ++ [x]) walk vo' vw ∧ Kept W (W'.setCell ⟨Q + 1, 0, none⟩ vo') c Q vo vo' vw vw := by
  have hbc := h.bc
  have htop := h.top
  have kb : ∀ k, k < Q + 5 → W'.heap[k]? = W.heap[k]? := fun k hk => hg.block (by omega) (h.vo_ne hk)
  have ne' : ∀ k, k < Q + 5 → vo'.ownBlock ≠ some k := fun k hk e => by have := (World.ownsRow.lt ho k e).1; omega
  have keep : ∀ {K : Nat} {t : TypeId} {vs : Array Value}, RowAt W K t vs → K < Q + 5 → K ≠ Q + 1 → RowAt (W'.setCell ⟨Q + 1, 0, none⟩ vo') K t vs := fun hr hK hne => RowAt.other (show RowAt W' _ _ _ from (kb _ hK).trans hr) hne _
  have hap : Apart vo' vw := (hg.apart h.wal h.apart.symm).symm
  refine ⟨⟨?_, keep h.bC (by omega) (by omega), ?_, keep h.bW (by omega) (by omega), keep h.bM (by omega) (by omega), keep h.bD (by omega) (by omega), CurAt.setFar (CurAt.block h.cur (fun j hj => kb j (by omega))) (by omega) _, h.et0,
    ownsRow_setOther ho (ne' _ (by omega)) _, ownsRow_setOther (hg.own h.wal h.apart.symm) (h.vw_ne (by omega)) _, hap, ?_, h.bc⟩, ?_, fun k hk _ h1 _ _ h4 _ => ?_, ?_, Lies.refl _ _⟩
  · obtain ⟨p, cap, hB⟩ := h.bB
    exact ⟨p, cap, keep hB (by omega) (by omega)⟩
  · unfold RowAt; rw [heap_setCell_same _ _ _ _ _ _ (show RowAt W' (Q + 1) _ _ from (kb _ (by omega)).trans h.bO)]; rfl
  · refine Below.setCell ?_ (by show w0.heap.size ≤ Q + 1; omega) _
    exact h.low.trans ((hg.below (B := Q + 5) (by omega) (fun k e => (World.ownsRow.lt h.own k e).1)).mono (by omega))
  · simpa [World.setCell] using hg.size
  · rw [heap_setCell_other W' _ k _ (by simp; exact h1)]
    exact hg.block hk h4
  · rcases hg.lies with e | e
    · exact .inl e
    · exact .inr e
/-- One more place on the way. -/
theorem DS.putWalk {vw' : Value} {a : Int} (h : DS Bad w0 W B c Q l s met out walk vo vw) (hg : Grew W W' vw vw') (ho : W'.ownsRow (Q + 5) 3 1 vw' (walk ++ [a]).length (intCells (walk ++ [a]))) :
    DS Bad w0 (W'.setCell ⟨Q + 2, 0, none⟩ vw') B c Q l s met out (walk ++ [a]) vo vw' ∧ Kept W (W'.setCell ⟨Q + 2, 0, none⟩ vw') c Q vo vo vw vw' := by
  have hbc := h.bc
  have htop := h.top
  have kb : ∀ k, k < Q + 5 → W'.heap[k]? = W.heap[k]? := fun k hk => hg.block (by omega) (h.vw_ne hk)
  have ne' : ∀ k, k < Q + 5 → vw'.ownBlock ≠ some k := fun k hk e => by have := (World.ownsRow.lt ho k e).1; omega
  have keep : ∀ {K : Nat} {t : TypeId} {vs : Array Value}, RowAt W K t vs → K < Q + 5 → K ≠ Q + 2 → RowAt (W'.setCell ⟨Q + 2, 0, none⟩ vw') K t vs := fun hr hK hne => RowAt.other (show RowAt W' _ _ _ from (kb _ hK).trans hr) hne _
  have hap : Apart vo vw' := hg.apart h.own h.apart
  refine ⟨⟨?_, keep h.bC (by omega) (by omega), keep h.bO (by omega) (by omega), ?_, keep h.bM (by omega) (by omega), keep h.bD (by omega) (by omega), CurAt.setFar (CurAt.block h.cur (fun j hj => kb j (by omega))) (by omega) _, h.et0,
    ownsRow_setOther (hg.own h.own h.apart) (h.vo_ne (by omega)) _, ownsRow_setOther ho (ne' _ (by omega)) _, hap, ?_, h.bc⟩, ?_, fun k hk _ _ h2 _ _ h5 => ?_, Lies.refl _ _, ?_⟩
  · obtain ⟨p, cap, hB⟩ := h.bB
    exact ⟨p, cap, keep hB (by omega) (by omega)⟩
  · unfold RowAt; rw [heap_setCell_same _ _ _ _ _ _ (show RowAt W' (Q + 2) _ _ from (kb _ (by omega)).trans h.bW)]; rfl
  · refine Below.setCell ?_ (by show w0.heap.size ≤ Q + 2; omega) _
    exact h.low.trans ((hg.below (B := Q + 5) (by omega) (fun k e => (World.ownsRow.lt h.wal k e).1)).mono (by omega))
  · simpa [World.setCell] using hg.size
  · rw [heap_setCell_other W' _ k _ (by simp; exact h2)]
    exact hg.block hk h5
  · rcases hg.lies with e | e
    · exact .inl e
    · exact .inr e
/-- The last place on the way is left. -/
theorem DS.popWalk {g : Option Addr} {cap : Nat} {a : Int} (h : DS Bad w0 W B c Q l s met out (walk ++ [a]) vo (.slice g (walk.length + 1) cap)) :
    DS Bad w0 (W.setCell ⟨Q + 2, 0, none⟩ (.slice g walk.length cap)) B c Q l s met out walk vo (.slice g walk.length cap) ∧ Kept W (W.setCell ⟨Q + 2, 0, none⟩ (.slice g walk.length cap)) c Q vo vo (.slice g (walk.length + 1) cap) (.slice g walk.length cap) := by
  have hbc := h.bc
  have hg := grownBy_setB W (Q + 2) 0 (.slice g walk.length cap)
  have ne : ∀ k, k ≠ Q + 2 → some k ≠ some (Q + 2) := fun k hk e => hk (Option.some.inj e)
  have hp : W.ownsRow (Q + 5) 3 1 (.slice g walk.length cap) walk.length (intCells walk) := by
    have := h.wal
    rw [List.length_append] at this
    unfold intCells at this ⊢
    rw [List.map_append] at this
    exact ownsRow_pop this
  have hn2 : (Value.slice g walk.length cap).ownBlock ≠ some (Q + 2) := fun e => by have := (World.ownsRow.lt hp _ e).1; omega
  refine ⟨⟨?_, h.bC.grown hg (ne _ (by omega)), h.bO.grown hg (ne _ (by omega)), ?_, h.bM.grown hg (ne _ (by omega)), h.bD.grown hg (ne _ (by omega)), CurAt.setFar h.cur (by omega) _, h.et0,
    ownsRow_setOther h.own (h.vo_ne (by omega)) _, ownsRow_setOther hp hn2 _, ?_, h.low.setCell (by show w0.heap.size ≤ Q + 2; omega) _, h.bc⟩, hg.size, fun k hk _ _ h2 _ _ _ => hg.block k hk (ne k h2), Lies.refl _ _, ?_⟩
  · obtain ⟨p, cap, hB⟩ := h.bB
    exact ⟨p, cap, hB.grown hg (ne _ (by omega))⟩
  · unfold RowAt; rw [heap_setCell_same _ _ _ _ _ _ h.bW]; rfl
  · intro k hk e
    refine h.apart k hk ?_
    cases g <;> exact e
  · refine .inl ?_
    cases g <;> rfl
end
/-- What a call of the closure brings about. -/
def DownEnd (Bad : Prop) (w0 W : World) (B c Q : Nat) (l : List UInt8) (walk : List Int) (vo vw : Value) (r : Nat × DownSt) (e : Ending) (W' : World) : Prop :=
  e = .returned (.int .i64 (r.1 : Int)) ∧ ∃ s' vo' vw', DS Bad w0 W' B c Q l s' r.2.met r.2.out walk vo' vw' ∧ Kept W W' c Q vo vo' vw vw' ∧ (r.1 = 0 → s'.bad = false)
theorem downEnd {Bad : Prop} {w0 W W' : World} {B c Q : Nat} {l : List UInt8} {walk : List Int} {vo vw vo' vw' : Value} {s' : Cu} {r : Nat × DownSt} (n : Nat) (met : Nat) (out : List Exp) (hr : r = (n, ⟨met, out⟩)) (hd : DS Bad w0 W' B c Q l s' met out walk vo' vw') (hk : Kept W W' c Q vo vo' vw vw') (h0 : n = 0 → s'.bad = false) :
    DownEnd Bad w0 W B c Q l walk vo vw r (.returned (.int .i64 (n : Int))) W' := by
  subst hr
  exact ⟨rfl, s', vo', vw', hd, hk, h0⟩
set_option maxHeartbeats 1000000 in
/-- A name that is too long. -/
theorem all_long {Bad : Prop} (w0 : World) (B c Q : Nat) (l : List UInt8) (f : Nat) (W : World) (at_ : Int) (name : List UInt8) (met : Nat) (out : List Exp) (walk : List Int) (vo vw : Value) (k : Nat)
    (hD : DS Bad w0 W B c Q l ⟨k, false⟩ met out walk vo vw) (h255 : 255 < name.length) (hn6 : name.length ≤ 600) (hmet : met ≤ 8192) :
    Calls Tryz.prog 107 #[.int .i64 at_, .string (mkS name), .pointer (some ⟨Q + 3, 0, none⟩), .pointer (some ⟨Q + 2, 0, none⟩), .pointer (some ⟨Q, 0, none⟩), .pointer (some ⟨B, 0, none⟩), .pointer (some ⟨Q + 1, 0, none⟩), .pointer (some ⟨Q + 4, 0, none⟩)] W
      (DownEnd Bad w0 W B c Q l walk vo vw (downF l f at_ name walk ⟨met, out⟩)) := by
  have m0 : W.cell? ⟨Q + 3, 0, none⟩ = some (.int .i64 (met : Int)) := cell_of_row W (Q + 3) 0 _ _ _ hD.bM
  have mf : W.frozen? ⟨Q + 3, 0, none⟩ = false := frozen_of_row W (Q + 3) 0 _ _ hD.bM
  have H1 := hid (hD.setMet (met + 1))
  have Hn := hid h255
  have hd1 : decide ((255 : Int) < (name.length : Int)) = true := by simp; omega
  have hd2 : decide (255 < name.length) = true := by simp; omega
  clear hD
  go_enter_defers Tryz.func107, Tryz.ntmps107
  go_wp2_with fail
  have h1 := H1.out
  rw [Int.natCast_add] at h1
  exact ⟨.int .i64 10, by simp [results, Tryz.results107, go_sem], downEnd 10 (met + 1) out (downF_name Hn.out) h1.1 h1.2 (fun h => by cases h)⟩
/-- What holds at a round's head: so many children were gone over. -/
def DownRel (Bad : Prop) (w0 W : World) (B c Q : Nat) (l : List UInt8) (walk : List Int) (vo vw : Value) (base : Nat) (kv : Value) (ks : List KidM) (go : KidM → DownSt → Nat × DownSt) (r : Nat × DownSt) (i : Value) (wr : World) : Prop :=
  ∃ (j : Nat) (st : DownSt) (k : Nat) (vo2 vw2 : Value), i = .int .i64 (j : Int) ∧ j ≤ ks.length ∧ DS Bad w0 wr B c Q l ⟨k, false⟩ st.met st.out walk vo2 vw2 ∧ Kept W wr c Q vo vo2 vw vw2 ∧ KF wr base Q kv ks vo2 vw2 ∧ st.met ≤ 8192 ∧ st.out.length ≤ 4096 ∧ eachKid go (ks.drop j) st = r
set_option maxHeartbeats 2000000 in
set_option maxRecDepth 4000 in
theorem all_down {Bad : Prop} (w0 : World) (B c Q : Nat) (l : List UInt8) (hl : l.length ≤ 140737488355328) (hne : l ≠ []) : ∀ (f : Nat) (W : World) (at_ : Int) (name : List UInt8) (met : Nat) (out : List Exp) (walk : List Int) (vo vw : Value) (k : Nat),
    DS Bad w0 W B c Q l ⟨k, false⟩ met out walk vo vw → 257 ≤ name.length + f → walk.length + f ≤ 257 → name.length ≤ 600 → met ≤ 8192 → out.length ≤ 4096 → at_ < l.length → ((downF l f at_ name walk ⟨met, out⟩).1 ≠ 0 → Bad) →
    Calls Tryz.prog 107 #[.int .i64 at_, .string (mkS name), .pointer (some ⟨Q + 3, 0, none⟩), .pointer (some ⟨Q + 2, 0, none⟩), .pointer (some ⟨Q, 0, none⟩), .pointer (some ⟨B, 0, none⟩), .pointer (some ⟨Q + 1, 0, none⟩), .pointer (some ⟨Q + 4, 0, none⟩)] W
      (DownEnd Bad w0 W B c Q l walk vo vw (downF l f at_ name walk ⟨met, out⟩)) := by
  intro f
  induction f with
  | zero =>
    intro W at_ name met out walk vo vw k hD hn hwk hn6 hmet hout hat hbd
    exact all_long w0 B c Q l 0 W at_ name met out walk vo vw k hD (by omega) hn6 hmet
  | succ f ih =>
    intro W at_ name met out walk vo vw k hD hn hwk hn6 hmet hout hat hbd
    by_cases h255 : 255 < name.length
    · exact all_long w0 B c Q l (f + 1) W at_ name met out walk vo vw k hD h255 hn6 hmet
    have m0 : W.cell? ⟨Q + 3, 0, none⟩ = some (.int .i64 (met : Int)) := cell_of_row W (Q + 3) 0 _ _ _ hD.bM
    have mf : W.frozen? ⟨Q + 3, 0, none⟩ = false := frozen_of_row W (Q + 3) 0 _ _ hD.bM
    have HI := hid ih
    have HB := hid hbd
    have H1 := hid (hD.setMet (met + 1))
    have Hn := hid h255
    have hd1 : decide ((255 : Int) < (name.length : Int)) = false := by simp; omega
    have hd2 : decide (255 < name.length) = false := by simp; omega
    clear ih hD h255 hbd
    go_enter_defers Tryz.func107, Tryz.ntmps107
    go_upto_region 4 with fail
    have h1 := H1.out
    rw [Int.natCast_add] at h1
    obtain ⟨W1, hW1⟩ : ∃ W1, W1 = W.setCell ⟨Q + 3, 0, none⟩ (.int .i64 ((met : Int) + 1)) := ⟨_, rfl⟩
    have hc1 : (((1 : Nat) : Int)) = 1 := rfl
    rw [hc1, ← hW1] at h1
    rw [← hW1]
    have H2 := hid h1
    clear h1 hW1 hc1 m0 mf hd1 hd2 H1
    have w0c : W1.cell? ⟨Q + 2, 0, none⟩ = some vw := cell_of_row W1 (Q + 2) 0 _ _ _ H2.out.1.bW
    have m0 : W1.cell? ⟨Q + 3, 0, none⟩ = some (.int .i64 ((met : Int) + 1)) := cell_of_row W1 (Q + 3) 0 _ _ _ H2.out.1.bM
    obtain ⟨wp, wcap, hvw⟩ := ownsRow_form H2.out.1.wal
    subst hvw
    obtain ⟨op, ocap, hvo⟩ := ownsRow_form H2.out.1.own
    subst hvo
    have Hhas := hid (has_int W1 (Q + 5) 3 _ walk at_ H2.out.1.wal (by omega))
    obtain ⟨hb, hhb⟩ : ∃ hb, hb = walk.contains at_ := ⟨_, rfl⟩
    rw [← hhb] at Hhas
    have Hhb := hid hhb
    clear hhb
    go_wp2_with fail
    refine Hhas.out.mono ?_
    rintro e w' ⟨rfl, rfl⟩
    cases hb with
    | true =>
      go_wp2_with fail
      exact ⟨.int .i64 12, by simp [results, Tryz.results107, go_sem], downEnd 12 (met + 1) out (downF_walk Hn.out Hhb.out.symm) H2.out.1 H2.out.2 (fun h => by cases h)⟩
    | false =>
      have hnw : ¬ walk.contains at_ = true := by rw [← Hhb.out]; simp
      have HW := hid hnw
      clear hnw
      by_cases hmany : 8192 < met + 1
      · have HM := hid hmany
        have hd1 : decide ((8192 : Int) < (met : Int) + 1) = true := by simp; omega
        go_wp2_with fail
        exact ⟨.int .i64 11, by simp [results, Tryz.results107, go_sem], downEnd 11 (met + 1) out (downF_many Hn.out HW.out HM.out) H2.out.1 H2.out.2 (fun h => by cases h)⟩
      have HM := hid hmany
      have hd1 : decide ((8192 : Int) < (met : Int) + 1) = false := by simp; omega
      clear hmany
      by_cases hneg : at_ < 0
      · have HG := hid hneg
        have hd2 : decide (at_ < 0) = true := by simp; omega
        go_wp2_with fail
        exact ⟨.int .i64 12, by simp [results, Tryz.results107, go_sem], downEnd 12 (met + 1) out (downF_neg Hn.out HW.out HM.out HG.out) H2.out.1 H2.out.2 (fun h => by cases h)⟩
      obtain ⟨a, rfl⟩ : ∃ a : Nat, at_ = a := ⟨at_.toNat, by omega⟩
      have hd2 : decide ((a : Int) < 0) = false := by simp
      have c0 : W1.cell? ⟨Q, 0, none⟩ = some (.pointer (some ⟨c, 0, none⟩)) := cell_of_row W1 Q 0 _ _ _ H2.out.1.bC
      obtain ⟨bp, bcap, hB⟩ := H2.out.1.bB
      have b0 : W1.cell? ⟨B, 0, none⟩ = some (.slice bp l.length bcap) := cell_of_row W1 B 0 _ _ _ hB
      have HG := hid (show ¬ (a : Int) < 0 from hneg)
      clear hneg hB
      go_wp2_with fail
      refine (trie_read W1 c k a l hl hne H2.out.1.cur H2.out.1.et (fun h => HB.out (by rw [downF_none Hn.out HW.out HM.out (by have := HG.out; omega) (by rw [Int.toNat_natCast]; exact h)]; simp)) (by omega)).mono ?_
      rintro e W2 ⟨nv, b, rfl, ⟨s2, hc2, hb2⟩, hg2, x, en, kv, rfl, ⟨kp, kn, kc, rfl⟩, hR⟩
      have h2 := H2.out.1.call hc2 hg2
      have h3 := h2.1.below ((Below.refl _ _).alloc (Nat.le_refl _) (.cells (nodeCells x en (.slice kp kn kc)) 189))
      have hX : RowAt (W2.alloc (.cells (nodeCells x en (.slice kp kn kc)) 189)) W2.heap.size 189 _ := heap_alloc_new W2 _
      have hXQ : Q + 5 ≤ W2.heap.size := h2.1.top
      have hXo := fun e => Nat.lt_irrefl _ (World.ownsRow.lt h2.1.own W2.heap.size e).2
      have hXw := fun e => Nat.lt_irrefl _ (World.ownsRow.lt h2.1.wal W2.heap.size e).2
      have hWX : W.heap.size ≤ W2.heap.size := Nat.le_trans H2.out.2.size h2.2.size
      have H3 := hid (And.intro h3.1 (And.intro (H2.out.2.trans (h2.2.trans h3.2)) (And.intro hXQ (And.intro hXo (And.intro hXw hWX)))))
      clear hc2 hg2 h2 h3 w0c m0 c0 b0 hd1 hd2 hXQ hXo hXw hWX
      cases hr : readM l a with
      | none =>
        rw [hr] at hR
        obtain rfl : b = false := hR
        have Hr := hid hr
        clear hr
        go_wp2_with fail
        exact ⟨.int .i64 12, by simp [results, Tryz.results107, go_sem], downEnd 12 (met + 1) out (downF_none Hn.out HW.out HM.out (by have := HG.out; omega) (by rw [Int.toNat_natCast]; exact Hr.out)) H3.out.1 H3.out.2.1 (fun h => by cases h)⟩
      | some n =>
        rw [hr] at hR
        obtain ⟨rfl, hxx, hen, hkb⟩ := hR
        have Hxe := hid (And.intro hxx hen)
        clear hxx hen
        have Hr := hid (And.intro hr (hb2 rfl))
        have hkb0 := hkb
        have HK := hid (ownsRow_below hkb ((Below.refl _ _).alloc (Nat.le_refl _) (.cells (nodeCells x en (.slice kp kn kc)) 189)))
        clear hr hkb hb2
        have hQ4 : Q + 5 ≤ W1.heap.size := H2.out.1.top
        have hk0 : KF (W2.alloc (.cells (nodeCells x en (.slice kp kn kc)) 189)) W1.heap.size Q (.slice kp kn kc) n.kids (.slice op out.length ocap) (.slice wp walk.length wcap) :=
          ⟨HK.out, hQ4, fun j h1 h2 => by have a1 := (World.ownsRow.lt HK.out j h1).1; have a2 := (World.ownsRow.lt H2.out.1.own j h2).2; omega, fun j h1 h2 => by have a1 := (World.ownsRow.lt HK.out j h1).1; have a2 := (World.ownsRow.lt H2.out.1.wal j h2).2; omega⟩
        have hkX : (Value.slice kp kn kc).ownBlock ≠ some W2.heap.size := fun e => by have a1 := (World.ownsRow.lt hkb0 _ e).2; omega
        have HF := hid (And.intro hk0 (And.intro hX hkX))
        clear hk0 hX hkX hkb0 HK hQ4
        go_upto_region 13 with fail
        obtain ⟨X, hXe⟩ : ∃ X, X = W2.heap.size := ⟨_, rfl⟩
        obtain ⟨W3, hW3⟩ : ∃ W3, W3 = W2.alloc (.cells (nodeCells x en (.slice kp kn kc)) 189) := ⟨_, rfl⟩
        rw [← hXe, ← hW3] at H3 HF
        rw [← hXe]
        rw [show W2.alloc (.cells #[.string (mkS x.name), .int .i64 x.kind, .bool x.weak, .int .u64 (x.value : Int), .int .u64 (x.resolver : Int), .int .u64 (x.ordinal : Int), .string (mkS x.other), .bool en, .slice kp kn kc] 189) = W3 from hW3.symm]
        clear hXe hW3
        have x7 : W3.cell? ⟨X, 7, none⟩ = some (.bool en) := cell_of_row W3 X 7 _ _ _ HF.out.2.1
        go_upto_if 43 with fail
        go_cut [] from 44 to 51 (fun wx => ∃ vo', DS Bad w0 wx B c Q l s2 (met + 1) (outN n name out) walk vo' (.slice wp walk.length wcap) ∧ Kept W wx c Q (.slice op out.length ocap) vo' (.slice wp walk.length wcap) (.slice wp walk.length wcap) ∧ KF wx W1.heap.size Q (.slice kp kn kc) n.kids vo' (.slice wp walk.length wcap) ∧ wx.cell? ⟨X, 8, none⟩ = some (.slice kp kn kc))
        case first =>
          cases en with
          | false =>
            go_wp2_with fail
            go_meet
            refine ⟨_, ?_, H3.out.2.1, HF.out.1, ?_⟩
            · have e : outN n name out = out := by unfold outN; rw [← Hxe.out.2]; rfl
              rw [e]; exact H3.out.1
            · exact cell_of_row W3 X 8 _ _ _ HF.out.2.1
          | true =>
            have x0 : W3.cell? ⟨X, 0, none⟩ = some (.string (mkS x.name)) := cell_of_row W3 X 0 _ _ _ HF.out.2.1
            have xf : W3.frozen? ⟨X, 0, none⟩ = false := frozen_of_row W3 X 0 _ _ HF.out.2.1
            have h4 := H3.out.1.setK (i := 0) H3.out.2.2.1 H3.out.2.2.2.1 H3.out.2.2.2.2.1 (.string (mkS name))
            have hX4 : RowAt (W3.setCell ⟨X, 0, none⟩ (.string (mkS name))) X 189 (nodeCells { x with name := name } true (.slice kp kn kc)) := by
              unfold RowAt; rw [heap_setCell_same _ _ _ _ _ _ HF.out.2.1]; rfl
            have hkf4 : KF (W3.setCell ⟨X, 0, none⟩ (.string (mkS name))) W1.heap.size Q (.slice kp kn kc) n.kids (.slice op out.length ocap) (.slice wp walk.length wcap) :=
              ⟨ownsRow_setOther HF.out.1.own HF.out.2.2 _, HF.out.1.far, HF.out.1.ao, HF.out.1.aw⟩
            go_upto_region 15 with fail
            obtain ⟨W4, hW4⟩ : ∃ W4, W4 = W3.setCell ⟨X, 0, none⟩ (.string (mkS name)) := ⟨_, rfl⟩
            rw [← hW4] at h4 hX4 hkf4 ⊢
            have hk4 : Kept W W4 c Q (.slice op out.length ocap) (.slice op out.length ocap) (.slice wp walk.length wcap) (.slice wp walk.length wcap) := by
              rw [hW4]; exact H3.out.2.1.setFar H3.out.2.2.2.2.2 _
            obtain ⟨y, hy⟩ : ∃ y : Exp, y = { x with name := name } := ⟨_, rfl⟩
            rw [← hy] at hX4
            have o0 : W4.cell? ⟨Q + 1, 0, none⟩ = some (.slice op out.length ocap) := cell_of_row W4 (Q + 1) 0 _ _ _ h4.bO
            have x0 : W4.cell? ⟨X, 0, none⟩ = some (.string (mkS y.name)) := cell_of_row W4 X 0 _ _ _ hX4
            have x1 : W4.cell? ⟨X, 1, none⟩ = some (.int .i64 y.kind) := cell_of_row W4 X 1 _ _ _ hX4
            have x2 : W4.cell? ⟨X, 2, none⟩ = some (.bool y.weak) := cell_of_row W4 X 2 _ _ _ hX4
            have x3 : W4.cell? ⟨X, 3, none⟩ = some (.int .u64 (y.value : Int)) := cell_of_row W4 X 3 _ _ _ hX4
            have x4 : W4.cell? ⟨X, 4, none⟩ = some (.int .u64 (y.resolver : Int)) := cell_of_row W4 X 4 _ _ _ hX4
            have x5 : W4.cell? ⟨X, 5, none⟩ = some (.int .u64 (y.ordinal : Int)) := cell_of_row W4 X 5 _ _ _ hX4
            have x6 : W4.cell? ⟨X, 6, none⟩ = some (.string (mkS y.other)) := cell_of_row W4 X 6 _ _ _ hX4
            have htop := h4.top
            obtain ⟨i0, hi, hz0, hz1, hz2⟩ := info_parts Tryz.infoExport
            have H4 := hid (And.intro h4 (And.intro hX4 (And.intro hkf4 (And.intro hk4 (And.intro hi (And.intro hz0 (And.intro hz1 (And.intro hz2 hy))))))))
            clear h4 hX4 hkf4 hW4 hk4 hi hz0 hz1 hz2 hy xf x7
            go_wp2_with (at_builtin; refine wpList_append_grew _ rfl _ _ _ _ rfl (Q + 5) 25 i0 _ 7 72 Tryz.underlying30 H4.out.2.2.2.2.1 H4.out.2.2.2.2.2.1 H4.out.2.2.2.2.2.2.1 H4.out.2.2.2.2.2.2.2.1 rfl _ out.length (expCells out) rfl (ownsRow_below H4.out.1.own ((Below.refl _ _).alloc (Nat.le_refl _) _)) _ 1 y.cells rfl (Src.laid _ Tryz.underlying30 y.cells 1 rfl (by simp [Exp.cells, Value.oneCell']) (0, 0) (by simp)) ?c3 ?c4 ?c5 ?_)
            case c3 => exact Nat.le_trans (show out.length + 1 ≤ 5000 by omega) (by decide)
            case c4 => omega
            case c5 => simp; omega
            intro v1 W5 hl1 hg1
            have hg1 : Grew W4 W5 _ v1 := Grew.under ((Below.refl _ _).alloc (Nat.le_refl _) _) hg1
            obtain ⟨vp, vc, hv1⟩ := ownsRow_form hl1
            subst hv1
            have o0' : W5.cell? ⟨Q + 1, 0, none⟩ = some (.slice op out.length ocap) := hg1.cell o0 (H4.out.1.vo_ne (by omega))
            have of' : W5.frozen? ⟨Q + 1, 0, none⟩ = false := frozen_of_row W5 (Q + 1) 0 _ _ ((hg1.block (by omega) (H4.out.1.vo_ne (by omega))).trans H4.out.1.bO)
            have h5 := H4.out.1.putOut (x := y) hg1 (by rw [expCells_snoc, List.length_append]; exact hl1)
            have x8 : W5.cell? ⟨X, 8, none⟩ = some (.slice kp kn kc) := hg1.cell (cell_of_row W4 X 8 _ _ _ H4.out.2.1) H3.out.2.2.2.1
            have H5 := hid (And.intro h5 x8)
            clear hl1 hg1 o0 h5 x0 x1 x2 x3 x4 x5 x6 x8
            go_wp2_with fail
            go_meet
            have e : outN n name out = out ++ [y] := by unfold outN; rw [← Hxe.out.2, ← Hxe.out.1, H4.out.2.2.2.2.2.2.2.2]; rfl
            have hXQ := H3.out.2.2.1
            refine ⟨_, ?_, H4.out.2.2.2.1.trans H5.out.1.2, H4.out.2.2.1.kept H5.out.1.2 H4.out.1.bc.2.2, ?_⟩
            · rw [e]; exact H5.out.1.1
            · rw [World.cell?_setCell_other _ _ _ _ (by simp)]; exact H5.out.2
        case rest =>
          obtain ⟨vo1, hd, hk, hkf, x8⟩ := hcut
          obtain ⟨O, hO⟩ : ∃ O, O = outN n name out := ⟨_, rfl⟩
          rw [← hO] at hd
          obtain ⟨oq, oc, ho⟩ := ownsRow_form hd.own
          subst ho
          have hOl : O.length ≤ 4097 := by rw [hO]; have := outN_len n name out; omega
          have o0 : wc.cell? ⟨Q + 1, 0, none⟩ = some (.slice oq O.length oc) := cell_of_row wc (Q + 1) 0 _ _ _ hd.bO
          have v0 : wc.cell? ⟨Q + 2, 0, none⟩ = some (.slice wp walk.length wcap) := cell_of_row wc (Q + 2) 0 _ _ _ hd.bW
          have htop := hd.top
          have H6 := hid (And.intro hd (And.intro hk (And.intro hkf hO)))
          clear hd hk hkf hO x7
          by_cases h6 : 4096 < O.length
          · have hd1 : decide ((4096 : Int) < (O.length : Int)) = true := by simp; omega
            have hd2 : decide (4096 < O.length) = true := by simp; omega
            have H7 := hid h6
            clear h6
            go_wp2_with fail
            exact ⟨.int .i64 11, by simp [results, Tryz.results107, go_sem], downEnd 11 (met + 1) O (by rw [downF_most Hn.out HW.out HM.out (by have := HG.out; omega) (by rw [Int.toNat_natCast]; exact Hr.out.1) (by rw [← H6.out.2.2.2]; exact H7.out), H6.out.2.2.2]) H6.out.1 H6.out.2.1 (fun h => by cases h)⟩
          · have hd1 : decide ((4096 : Int) < (O.length : Int)) = false := by simp; omega
            have hd2 : decide (4096 < O.length) = false := by simp; omega
            have H7 := hid h6
            clear h6
            have hmf : ∀ (fn : Fn) (first cap : Array Value) (w : World), (Instr.makeFunc fn first cap).run Tryz.prog w = .ok (.func fn first cap) w := fun _ _ _ _ => rfl
            obtain ⟨i0, hi, hz0, hz1, hz2⟩ := info_parts Tryz.infoInt
            have H8 := hid (And.intro hi (And.intro hz0 (And.intro hz1 hz2)))
            clear hi hz0 hz1 hz2
            go_wp2_with (at_builtin; refine wpList_append_grew _ rfl _ _ _ _ rfl (Q + 5) 3 i0 _ 1 8 Tryz.underlying66 H8.out.1 H8.out.2.1 H8.out.2.2.1 H8.out.2.2.2 rfl _ walk.length (intCells walk) rfl (ownsRow_below H6.out.1.wal ((Below.refl _ _).alloc (Nat.le_refl _) _)) _ 1 [.int .i64 (a : Int)] rfl (Src.laid _ Tryz.underlying66 [.int .i64 (a : Int)] 1 rfl (by simp [Value.oneCell']) (0, 0) (by simp)) ?c3 ?c4 ?c5 ?_)
            case c3 => exact Nat.le_trans (show walk.length + 1 ≤ 5000 by omega) (by decide)
            case c4 => omega
            case c5 => simp; omega
            intro v1 W5 hl1 hg1
            have hg1 : Grew wc W5 _ v1 := Grew.under ((Below.refl _ _).alloc (Nat.le_refl _) _) hg1
            obtain ⟨vp, vc, hv1⟩ := ownsRow_form hl1
            subst hv1
            have v0' : W5.cell? ⟨Q + 2, 0, none⟩ = some (.slice wp walk.length wcap) := hg1.cell v0 (H6.out.1.vw_ne (by omega))
            have vf' : W5.frozen? ⟨Q + 2, 0, none⟩ = false := frozen_of_row W5 (Q + 2) 0 _ _ ((hg1.block (by omega) (H6.out.1.vw_ne (by omega))).trans H6.out.1.bW)
            have h5 := H6.out.1.putWalk (a := (a : Int)) hg1 (by unfold intCells at hl1 ⊢; rw [List.map_append, List.length_append]; exact hl1)
            have x8' : W5.cell? ⟨X, 8, none⟩ = some (.slice kp kn kc) := hg1.cell x8 H3.out.2.2.2.2.1
            have H9 := hid h5
            clear hl1 hg1 v0 h5 x8 o0 hd1 hd2
            go_wp2_with fail
            have hres : downF l (f + 1) (a : Int) name walk ⟨met, out⟩ = eachKid (fun k s => downF l f k.to (name ++ k.edge) (walk ++ [(a : Int)]) s) n.kids ⟨met + 1, O⟩ := by
              rw [downF_kids Hn.out HW.out HM.out (by have := HG.out; omega) (by rw [Int.toNat_natCast]; exact Hr.out.1) (by rw [← H6.out.2.2.2]; exact H7.out), H6.out.2.2.2]
            obtain ⟨go, hgo⟩ : ∃ go : KidM → DownSt → Nat × DownSt, go = fun k s => downF l f k.to (name ++ k.edge) (walk ++ [(a : Int)]) s := ⟨_, rfl⟩
            rw [← hgo] at hres
            obtain ⟨r, hr⟩ : ∃ r, r = downF l (f + 1) (a : Int) name walk ⟨met, out⟩ := ⟨_, rfl⟩
            have HRr := hid hr
            rw [← hr] at hres ⊢
            obtain ⟨ks, hks⟩ : ∃ ks, ks = n.kids := ⟨_, rfl⟩
            have hkne := (readM_kids Hr.out.1).1
            have hkto := readM_to Hr.out.1 (List.length_pos_iff.2 hne)
            have hkf6 := H6.out.2.2.1.kept H9.out.2 H6.out.1.bc.2.2
            rw [← hks] at hres hkne hkto hkf6
            have hksl := ownsRow_few hkf6.own
            obtain ⟨ka, kcp, hka⟩ := ownsRow_form hkf6.own
            obtain ⟨hk1, hk2, hk3⟩ := Value.slice.inj hka
            subst hk1
            subst hk2
            subst hk3
            have HGo := hid (And.intro hgo (And.intro hkne (And.intro hkto hres)))
            have H10 := hid (And.intro (H6.out.2.1.trans H9.out.2) hkf6)
            clear hgo hr hks hkne hkto hres hkf6 hka v0' vf'
            go_loopw [63] (fun i wr => DownRel Bad w0 W B c Q l (walk ++ [(a : Int)]) (.slice op out.length ocap) (.slice wp walk.length wcap) W1.heap.size (.slice kp ks.length kc) ks go r i wr) (fun i _ => ks.length - (intOf i).toNat)
            case atStart => exact ⟨0, ⟨met + 1, O⟩, s2.at_, _, _, rfl, Nat.zero_le _, by rw [← cu_good Hr.out.2]; exact H9.out.1, H10.out.1, H10.out.2, by show met + 1 ≤ 8192; have := HM.out; omega, by show O.length ≤ 4096; have := H7.out; omega, by rw [List.drop_zero]; exact HGo.out.2.2.2.symm⟩
            case round =>
              obtain ⟨j, st, kk, vo2, vw2, rfl, hj, hd, hk, hkf, hm2, ho2, he⟩ := hrel
              by_cases hlt : j < ks.length
              · obtain ⟨kd, hkd⟩ : ∃ kd, ks[j]? = some kd := ⟨_, List.getElem?_eq_getElem hlt⟩
                obtain ⟨g, gc, hg, hgl, e0, e1⟩ := hkf.at hkd
                obtain ⟨hg1, -, hg3⟩ := Value.slice.inj hg
                subst hg1
                subst hg3
                have hdrop : ks.drop j = kd :: ks.drop (j + 1) := by
                  obtain ⟨hl2, rfl⟩ := List.getElem?_eq_some_iff.1 hkd
                  exact List.drop_eq_getElem_cons hl2
                rw [hdrop] at he
                have hmem := List.mem_of_getElem? hkd
                have hkn := HGo.out.2.1 kd hmem
                have hkt := HGo.out.2.2.1 kd hmem
                have d0 : wr.cell? ⟨Q + 4, 0, none⟩ = some (.func (.func 107) #[] (caps B Q)) := cell_of_row wr (Q + 4) 0 _ _ _ hd.bD
                have htop2 := hd.top
                have hltz : decide ((j : Int) < (ks.length : Int)) = true := by simp; omega
                obtain ⟨dd, hdd⟩ : ∃ dd, ks.length = j + 1 + dd := ⟨ks.length - j - 1, by omega⟩
                have Hlt := hid hdd
                clear hdd
                have hcat : ¬ 9223372036854775807 < name.length + kd.edge.length := by have h5 := Hn.out; have h6 := hkn.2; omega
                have H11 := hid (And.intro hd (And.intro hk (And.intro hkf (And.intro he (And.intro hkn hkt)))))
                clear hd hk hkf he hkn hkt hdrop hkd hmem hg
                go_wp2_with fail
                have h12 := H11.out.1.below ((Below.refl _ _).alloc (Nat.le_refl _) (.cells #[.string (mkS kd.edge), .int .i64 kd.to] 193))
                rw [mkS_append]
                have hnl : (name ++ kd.edge).length ≤ 600 := by rw [List.length_append]; have h5 := Hn.out; have h6 := H11.out.2.2.2.2.1.2; omega
                have hnf : 257 ≤ (name ++ kd.edge).length + f := by rw [List.length_append]; have h6 := List.length_pos_iff.2 H11.out.2.2.2.2.1.1; omega
                refine (HI.out _ kd.to (name ++ kd.edge) st.met st.out (walk ++ [(a : Int)]) vo2 vw2 kk h12.1 hnf (by simp; omega) hnl hm2 ho2 H11.out.2.2.2.2.2 (fun hz => HB.out (by
                  have he := H11.out.2.2.2.1
                  have hg : go kd st = downF l f kd.to (name ++ kd.edge) (walk ++ [(a : Int)]) ⟨st.met, st.out⟩ := by rw [HGo.out.1]
                  rw [eachKid_stop (by rw [hg]; exact hz)] at he
                  rw [← HRr.out, ← he, hg]; exact hz))).mono ?_
                rintro e W8 ⟨rfl, s3, vo3, vw3, hd3, hk3, h03⟩
                have hgr : go kd st = downF l f kd.to (name ++ kd.edge) (walk ++ [(a : Int)]) ⟨st.met, st.out⟩ := by rw [HGo.out.1]
                have hmet3 := downF_met l f kd.to (name ++ kd.edge) (walk ++ [(a : Int)]) ⟨st.met, st.out⟩ hm2
                have hout3 := downF_few l f kd.to (name ++ kd.edge) (walk ++ [(a : Int)]) ⟨st.met, st.out⟩ ho2
                obtain ⟨r3, hr3⟩ : ∃ r3, r3 = downF l f kd.to (name ++ kd.edge) (walk ++ [(a : Int)]) ⟨st.met, st.out⟩ := ⟨_, rfl⟩
                rw [← hr3] at hd3 h03 hgr hmet3 hout3 ⊢
                have hk4 := H11.out.2.1.trans (h12.2.trans hk3)
                have hkf4 := H11.out.2.2.1.kept (h12.2.trans hk3) H11.out.1.bc.2.2
                have H13 := hid (And.intro hd3 (And.intro h03 (And.intro hgr (And.intro hmet3 (And.intro hout3 (And.intro hk4 hkf4))))))
                clear hd3 h03 hgr hmet3 hout3 hk4 hkf4 hr3 h12 hk3 hcat e0 e1 d0 hltz hnl hnf
                by_cases hz : r3.1 = 0
                · have hb3 : ((r3.1 : Int) != 0) = false := by rw [hz]; rfl
                  have Hz := hid hz
                  clear hz
                  go_wp2
                  go_roundw
                  case rel =>
                    have hlt := Hlt.out
                    refine ⟨j + 1, r3.2, s3.at_, vo3, vw3, by go_num, by omega, ?_, H13.out.2.2.2.2.2.1, H13.out.2.2.2.2.2.2, H13.out.2.2.2.1 Hz.out, H13.out.2.2.2.2.1 Hz.out, ?_⟩
                    · rw [← cu_good (H13.out.2.1 Hz.out)]; exact H13.out.1
                    · have he := H11.out.2.2.2.1
                      rw [eachKid_on (by rw [H13.out.2.2.1]; exact Hz.out), H13.out.2.2.1] at he
                      exact he
                  case measure => have hlt := Hlt.out; simp [intOf]; omega
                · have hb3 : ((r3.1 : Int) != 0) = true := by rw [bne_iff_ne]; omega
                  have Hz := hid hz
                  clear hz
                  go_wp2_with fail
                  have hd4 := H13.out.1
                  refine leaves_cons (f := 110) (args := #[.pointer (some ⟨Q + 2, 0, none⟩)]) (by simp) (by simp [go_sem]) ?_
                  obtain ⟨g2, cap2, hv2⟩ := ownsRow_form hd4.wal
                  have hwl : (walk ++ [(a : Int)]).length = walk.length + 1 := by simp
                  rw [hwl] at hv2
                  subst hv2
                  have hcap2 : walk.length + 1 ≤ cap2 := by
                    rcases hd4.wal.2 with ⟨_, h0⟩ | ⟨g3, cap3, cur, h1, _, _, h4, _⟩
                    · simp at h0
                    · obtain ⟨-, -, h1c⟩ := Value.slice.inj h1
                      rw [h1c, ← hwl]; exact h4
                  have hpop := hd4.popWalk
                  refine (all_pop (Q + 2) (walk.length + 1) cap2 g2 .returning W8 (cell_of_row W8 (Q + 2) 0 _ _ _ hd4.bW) (frozen_of_row W8 (Q + 2) 0 _ _ hd4.bW) (by omega) hcap2 (by omega)).mono ?_
                  rintro e u' w'' ⟨rfl, rfl, rfl⟩
                  have he := H11.out.2.2.2.1
                  rw [eachKid_stop (by rw [H13.out.2.2.1]; exact Hz.out), H13.out.2.2.1] at he
                  exact ⟨.int .i64 r3.1, by simp [results, Tryz.results107, go_sem], downEnd r3.1 r3.2.met r3.2.out he.symm hpop.1 (H13.out.2.2.2.2.2.1.trans hpop.2) (fun h => absurd h Hz.out)⟩
              · have hltz : decide ((j : Int) < (ks.length : Int)) = false := by simp; omega
                obtain rfl : j = ks.length := by omega
                have H11 := hid (And.intro hd (And.intro hk he))
                clear hd hk hkf he
                go_wp2_with fail
                have hd4 := H11.out.1
                refine leaves_cons (f := 110) (args := #[.pointer (some ⟨Q + 2, 0, none⟩)]) (by simp) (by simp [go_sem]) ?_
                obtain ⟨g2, cap2, hv2⟩ := ownsRow_form hd4.wal
                have hwl : (walk ++ [(a : Int)]).length = walk.length + 1 := by simp
                rw [hwl] at hv2
                subst hv2
                have hcap2 : walk.length + 1 ≤ cap2 := by
                  rcases hd4.wal.2 with ⟨_, h0⟩ | ⟨g3, cap3, cur, h1, _, _, h4, _⟩
                  · simp at h0
                  · obtain ⟨-, -, h1c⟩ := Value.slice.inj h1
                    rw [h1c, ← hwl]; exact h4
                have hpop := hd4.popWalk
                refine (all_pop (Q + 2) (walk.length + 1) cap2 g2 .returning wr (cell_of_row wr (Q + 2) 0 _ _ _ hd4.bW) (frozen_of_row wr (Q + 2) 0 _ _ hd4.bW) (by omega) hcap2 (by omega)).mono ?_
                rintro e u' w'' ⟨rfl, rfl, rfl⟩
                have he := H11.out.2.2
                rw [List.drop_length] at he
                exact ⟨.int .i64 0, by simp [results, Tryz.results107, go_sem], downEnd 0 st.met st.out (HRr.out.symm.trans he.symm) hpop.1 (H11.out.2.1.trans hpop.2) (fun _ => rfl)⟩
end Go.Proofs.YthhjdkcnkdffcaaGreat.Eb

namespace Go.Proofs.YthhjdkcnkdffcaaGreat.Eb
set_option linter.unusedSimpArgs false
set_option linter.unusedVariables false
open Go.RowKit Go.Sort
/-- What stands at the beginning. -/
theorem DS.start {Bad : Prop} {w w1 : World} {c : Nat} {l : List UInt8} {p : Option Addr} {cap : Nat} (het : EZ Bad w) (hb : Below (w.heap.size + 1) (w.alloc (.cells #[.slice p l.length cap] 27)) w1) (hc : w.heap.size + 1 ≤ c) (hcu : CurAt w1 c l 0 false false) (W : World) (F : Value)
    (hF : F = .func (.func 107) #[] (caps w.heap.size w1.heap.size))
    (hW : W = ((((w1.alloc (.cells #[.pointer (some ⟨c, 0, none⟩)] 184)).alloc (.cells #[.slice none 0 0] 30)).alloc (.cells #[.slice none 0 0] 66)).alloc (.cells #[.int .i64 0] 3)).alloc (.cells #[F] 186)) :
    DS Bad w W w.heap.size c w1.heap.size l ⟨0, false⟩ 0 [] [] (.slice none 0 0) (.slice none 0 0) := by
  subst hF
  subst hW
  have hs := hb.size
  simp at hs
  have hcl := CurAt.lt hcu
  have g0 := World.grownBy_alloc w1 (.cells #[.pointer (some ⟨c, 0, none⟩)] 184) none
  have hbW : Below w1.heap.size w1 (((((w1.alloc (.cells #[.pointer (some ⟨c, 0, none⟩)] 184)).alloc (.cells #[.slice none 0 0] 30)).alloc (.cells #[.slice none 0 0] 66)).alloc (.cells #[.int .i64 0] 3)).alloc (.cells #[.func (.func 107) #[] (caps w.heap.size w1.heap.size)] 186)) :=
    ((((((Below.refl _ _).alloc (Nat.le_refl _) _).alloc (by simp) _).alloc (by simp; omega) _).alloc (by simp; omega) _).alloc (by simp; omega) _)
  have hB : RowAt w1 w.heap.size 27 #[.slice p l.length cap] := (hb.block w.heap.size (by omega)).trans (heap_alloc_new w _)
  refine ⟨⟨p, cap, (hbW.block w.heap.size (by omega)).trans hB⟩, ?_, ?_, ?_, ?_, ?_, CurAt.below hcu hbW, het, World.ownsRow_nil _ _ _ _, World.ownsRow_nil _ _ _ _, Apart.nil _, ?_, Nat.le_refl _, by omega, hcl⟩
  · exact (row5 w1 _ _ _ _ _).1
  · exact (row5 w1 _ _ _ _ _).2.1
  · exact (row5 w1 _ _ _ _ _).2.2.1
  · exact (row5 w1 _ _ _ _ _).2.2.2.1
  · exact (row5 w1 _ _ _ _ _).2.2.2.2
  · refine ((Below.refl w.heap.size w).alloc (Nat.le_refl _) (.cells #[.slice p l.length cap] 27)).trans ((hb.mono (by omega)).trans (hbW.mono (by omega)))
set_option maxHeartbeats 1000000 in
set_option maxRecDepth 4000 in
theorem trie_all {Bad : Prop} (w : World) (p : Option Addr) (n cap : Nat) (l : List UInt8) (h : BS w (.slice p n cap) l) (het : EZ Bad w) (hbd : (allS l).1 ≠ 0 → Bad) :
    Calls Tryz.prog 104 #[.slice p n cap] w fun e w' => ∃ v, e = .returned (.tuple #[v, .int .i64 ((allS l).1 : Int)]) ∧ ES w' v (allS l).2 ∧ Below w.heap.size w w' := by
  obtain rfl := h.len
  have hcp := h.cap
  by_cases hne : l = []
  · subst hne
    go_enter Tryz.func104, Tryz.ntmps104
    go_wp2_with fail
    go_ret2
    exact ⟨_, rfl, by rw [show (allS []).2 = [] from byNames_nil]; exact ES.nil _, (Below.refl _ _).alloc (Nat.le_refl _) _⟩
  · have hpos := List.length_pos_iff.2 hne
    have hd1 : ((l.length : Int) == 0) = false := by rw [beq_eq_false_iff_ne]; omega
    have hd2 : (l.length == 0) = false := by rw [beq_eq_false_iff_ne]; omega
    have hmf : ∀ (fn : Fn) (first cap : Array Value) (w : World), (Instr.makeFunc fn first cap).run Tryz.prog w = .ok (.func fn first cap) w := fun _ _ _ _ => rfl
    have H0 := hid (And.intro (h.below ((Below.refl _ _).alloc (Nat.le_refl _) (.cells #[.slice p l.length cap] 27))) (And.intro het (And.intro hne hbd)))
    clear h het hne hbd
    go_enter Tryz.func104, Tryz.ntmps104
    go_wp2_with fail
    refine (cur_new _ p l.length cap l false H0.out.1).mono ?_
    rintro e w1 ⟨c, rfl, hc, hcu, hb⟩
    have hsz0 : (w.alloc (.cells #[.slice p l.length cap] 27)).heap.size = w.heap.size + 1 := by simp
    rw [hsz0] at hc hb
    clear hsz0
    have H1 := hid (And.intro hc (And.intro hcu hb))
    have hsz := hb.size
    clear hc hcu hb
    go_wp2_with fail
    obtain ⟨W, hW⟩ : ∃ W, W = ((((w1.alloc (.cells #[.pointer (some ⟨c, 0, none⟩)] 184)).alloc (.cells #[.slice none 0 0] 30)).alloc (.cells #[.slice none 0 0] 66)).alloc (.cells #[.int .i64 0] 3)).alloc (.cells #[.func (.func 107) #[] (caps w.heap.size w1.heap.size)] 186) := ⟨_, rfl⟩
    have hDS := DS.start H0.out.2.1 H1.out.2.2 H1.out.1 H1.out.2.1 W _ rfl hW
    have hcall := all_down w w.heap.size c w1.heap.size l hcp.2.2 H0.out.2.2.1 257 W 0 [] 0 [] [] _ _ 0 hDS (by simp) (by simp) (by simp) (by omega) (by simp) (by omega) (fun hz => H0.out.2.2.2 (by unfold allS allT; rw [if_neg H0.out.2.2.1, if_pos hz]; exact hz))
    show Calls Tryz.prog 107 #[.int .i64 0, .string (mkS []), .pointer (some ⟨w1.heap.size + 3, 0, none⟩), .pointer (some ⟨w1.heap.size + 2, 0, none⟩), .pointer (some ⟨w1.heap.size, 0, none⟩), .pointer (some ⟨w.heap.size, 0, none⟩), .pointer (some ⟨w1.heap.size + 1, 0, none⟩), .pointer (some ⟨w1.heap.size + 4, 0, none⟩)] (((((w1.alloc (.cells #[.pointer (some ⟨c, 0, none⟩)] 184)).alloc (.cells #[.slice none 0 0] 30)).alloc (.cells #[.slice none 0 0] 66)).alloc (.cells #[.int .i64 0] 3)).alloc (.cells #[.func (.func 107) #[] (caps w.heap.size w1.heap.size)] 186)) _
    rw [← hW]
    refine hcall.mono ?_
    clear hcall hDS hW
    rintro e W3 ⟨rfl, s3, vo3, vw3, hd3, hk3, h03⟩
    obtain ⟨Q, hQ⟩ : ∃ Q, Q = w1.heap.size := ⟨_, rfl⟩
    rw [← hQ] at hd3 ⊢
    have hw1 : w.heap.size ≤ Q := by have := hd3.bc; omega
    clear hQ hk3 h03
    obtain ⟨r, hr⟩ : ∃ r, r = downF l 257 0 [] [] ⟨0, []⟩ := ⟨_, rfl⟩
    rw [← hr] at hd3 ⊢
    have Hr := hid (And.intro hr H0.out.2.2.1)
    by_cases hz : r.1 = 0
    · have hS : allS l = (0, byNames r.2.out) ∧ NamesApart r.2.out := by
        have hne := H0.out.2.2.1
        have h1 := allT_apart l
        unfold allS
        unfold allT at h1 ⊢
        rw [if_neg hne, ← hr, if_neg (by omega)] at h1 ⊢
        exact ⟨rfl, h1⟩
      have hb3 : ((r.1 : Int) != 0) = false := by rw [hz]; rfl
      have o0 : W3.cell? ⟨Q + 1, 0, none⟩ = some vo3 := cell_of_row W3 (Q + 1) 0 _ _ _ hd3.bO
      have hfew : r.2.out.length ≤ 4096 := by
        have := downF_few l 257 0 [] [] ⟨0, []⟩ (by simp)
        rw [← hr] at this
        exact this hz
      have hne1 := hd3.vo_ne (show Q + 1 < Q + 5 by omega)
      obtain ⟨op, oc, ho⟩ := ownsRow_form hd3.own
      subst ho
      have hsort := sort_any W3 (Q + 5) _ r.2.out hd3.own (by omega) hS.2
      have H3 := hid (And.intro hd3 (And.intro hS (And.intro hne1 hsort)))
      clear hd3 hS hne1 hsort hr hz
      go_wp2_with fail
      refine H3.out.2.2.2.mono ?_
      rintro e W4 ⟨rfl, hes, hg4⟩
      have o1 : W4.cell? ⟨Q + 1, 0, none⟩ = some (.slice op r.2.out.length oc) := (World.cell?_of_block (hg4.block (Q + 1) (by have := H3.out.1.top; omega) (Ne.symm H3.out.2.2.1))).trans o0
      have H4 := hid (And.intro hes hg4)
      clear hes hg4
      go_wp2_with fail
      go_ret2
      rw [H3.out.2.1.1]
      refine ⟨_, rfl, H4.out.1, H3.out.1.low.grown H4.out.2 H3.out.1.low.size (fun k hk => ?_)⟩
      have := (World.ownsRow.lt H3.out.1.own k hk).1
      omega
    · have hS : allS l = (r.1, []) := by
        have hne := H0.out.2.2.1
        unfold allS
        unfold allT
        rw [if_neg hne, ← hr, if_pos hz]
        simp [byNames]
      have hb3 : ((r.1 : Int) != 0) = true := by rw [bne_iff_ne]; omega
      have H3 := hid (And.intro hd3 hS)
      clear hd3 hS hr hz
      go_wp2_with fail
      go_ret2
      rw [H3.out.2]
      exact ⟨_, rfl, ES.nil _, H3.out.1.low⟩
end Go.Proofs.YthhjdkcnkdffcaaGreat.Eb

namespace Go.Proofs.YthhjdkcnkdffcaaGreat.Eb
set_option linter.unusedSimpArgs false
set_option linter.unusedVariables false
open Go.RowKit
/-- What stands while a name is looked for. -/
structure FS (Bad : Prop) (w W : World) (X c K : Nat) (l : List UInt8) (k : Nat) (rest : List UInt8) (walk : List Int) (vw : Value) : Prop where
  res : RowAt W X 25 Exp.zero.cells.toArray
  cur : CuAt W c l ⟨k, false⟩
  ro : RowAt W K 9 #[.string (mkS rest)]
  wal : W.ownsRow (c + 1) 3 1 vw walk.length (intCells walk)
  nK : vw.ownBlock ≠ some K
  low : Below w.heap.size w W
  et0 : EZ Bad w
  ord : w.heap.size ≤ X ∧ X < c ∧ c < K
section
variable {Bad : Prop} {w W W' : World} {X c K k k' : Nat} {l rest : List UInt8} {walk : List Int} {vw vw' : Value}
theorem FS.et (h : FS Bad w W X c K l k rest walk vw) : EZ Bad W := fun a => by
  have hlt := lt_of_cellB (h.et0 a)
  have := h.et0 a
  unfold ET at this ⊢
  rw [h.low.cell (p := ⟨0, 0, none⟩) hlt]; exact this
theorem FS.call (h : FS Bad w W X c K l k rest walk vw) (hc : CuAt W' c l ⟨k', false⟩) (hg : W.grownBy W' (some c)) : FS Bad w W' X c K l k' rest walk vw := by
  have ho := h.ord
  refine ⟨h.res.grown hg (fun e => by have := Option.some.inj e; omega), hc, h.ro.grown hg (fun e => by have := Option.some.inj e; omega), h.wal.kept hg (.inr (fun e => by have := (World.ownsRow.lt h.wal c e).1; omega)), h.nK, ?_, h.et0, ho⟩
  exact h.low.grown hg h.low.size (fun j e => by have := Option.some.inj e; omega)
theorem FS.below (h : FS Bad w W X c K l k rest walk vw) (hb : Below W.heap.size W W') : FS Bad w W' X c K l k rest walk vw :=
  h.call (CurAt.below h.cur hb) (Below.all hb _)
theorem FS.put (h : FS Bad w W X c K l k rest walk vw) {a : Int} (hg : Grew W W' vw vw') (ho : W'.ownsRow (c + 1) 3 1 vw' (walk ++ [a]).length (intCells (walk ++ [a]))) : FS Bad w W' X c K l k rest (walk ++ [a]) vw' := by
  have hO := h.ord
  have hX := h.res.lt
  have hK := h.ro.lt
  have hn : ∀ j, j ≤ c → vw.ownBlock ≠ some j := fun j hj e => by have := (World.ownsRow.lt h.wal j e).1; omega
  refine ⟨(hg.block hX (hn X (by omega))).trans h.res, CurAt.block h.cur (fun j hj => hg.block (by omega) (hn j hj)), (hg.block hK h.nK).trans h.ro, ho, ?_, ?_, h.et0, hO⟩
  · intro e
    rcases hg.lies with h1 | ⟨i, h1, h2⟩
    · exact h.nK (h1.symm.trans e)
    · rw [h1] at e; cases e; omega
  · exact h.low.trans ((hg.below (B := c + 1) (by omega) (fun j e => (World.ownsRow.lt h.wal j e).1)).mono (by omega))
theorem FS.far (h : FS Bad w W X c K l k rest walk vw) {N i : Nat} (hN : c < N) (hK : K ≠ N) (hv : vw.ownBlock ≠ some N) (u : Value) : FS Bad w (W.setCell ⟨N, i, none⟩ u) X c K l k rest walk vw := by
  have hO := h.ord
  exact ⟨h.res.other (by omega) u, CurAt.setFar h.cur hN u, h.ro.other hK u, ownsRow_setOther h.wal hv u, h.nK, h.low.setCell (by show w.heap.size ≤ N; omega) u, h.et0, hO⟩
/-- What is left of the name goes into a new block. -/
theorem FS.on (h : FS Bad w W X c K l k rest walk vw) (r : List UInt8) : FS Bad w ((W.setCell ⟨K, 0, none⟩ (.string (mkS r))).alloc (.cells #[.string (mkS r)] 9)) X c W.heap.size l k r walk vw := by
  have hO := h.ord
  have hK := h.ro.lt
  have h1 : FS Bad w (W.setCell ⟨K, 0, none⟩ (.string (mkS r))) X c K l k r walk vw := by
    refine ⟨h.res.other (by omega) _, CurAt.setFar h.cur (by omega) _, ?_, ownsRow_setOther h.wal h.nK _, h.nK, h.low.setCell (by show w.heap.size ≤ K; omega) _, h.et0, hO⟩
    unfold RowAt; rw [heap_setCell_same _ _ _ _ _ _ h.ro]; rfl
  have hs : (W.setCell ⟨K, 0, none⟩ (.string (mkS r))).heap.size = W.heap.size := by simp [World.setCell]
  have h2 := h1.below ((Below.refl _ _).alloc (Nat.le_refl _) (.cells #[.string (mkS r)] 9))
  refine ⟨h2.res, h2.cur, ?_, h2.wal, fun e => ?_, h2.low, h2.et0, hO.1, hO.2.1, by omega⟩
  · rw [← hs]; exact heap_alloc_new _ _
  · have := (World.ownsRow.lt h.wal W.heap.size e).2; omega
end
def FRel (Bad : Prop) (w : World) (X c : Nat) (l name : List UInt8) (r : Exp × Bool × Nat) (k : Nat) (v8 v9 v10 : Value) (wr : World) : Prop :=
  ∃ at_ rest walk K kk, v9 = .int .i64 at_ ∧ v10 = .pointer (some ⟨K, 0, none⟩) ∧ rest.length = k ∧ walk.length + rest.length ≤ 255 ∧ at_ < (l.length : Int) ∧ FS Bad w wr X c K l kk rest walk v8 ∧ findF l name (rest.length + 1) at_ rest walk = r
set_option maxHeartbeats 2000000 in
set_option maxRecDepth 4000 in
theorem trie_find {Bad : Prop} (w : World) (p : Option Addr) (n cap : Nat) (l name : List UInt8) (h : BS w (.slice p n cap) l) (het : EZ Bad w) (hbd : (findT l name).2.2 ≠ 0 → Bad) :
    Calls Tryz.prog 105 #[.slice p n cap, .string (mkS name)] w fun e w' => e = .returned (.tuple #[.agg (findT l name).1.cells.toArray, .bool (findT l name).2.1, .int .i64 ((findT l name).2.2 : Int)]) ∧ Below w.heap.size w w' := by
  obtain rfl := h.len
  have hcp := h.cap
  by_cases h255 : 255 < name.length
  · have hd1 : decide ((255 : Int) < (name.length : Int)) = true := by simp; omega
    have hd2 : decide (255 < name.length) = true := by simp; omega
    have Hr := hid (show findT l name = (Exp.zero, false, 10) from by unfold findT; rw [if_pos h255])
    clear h255 h
    go_enter Tryz.func105, Tryz.ntmps105
    go_wp2_with fail
    refine bodyPost_ret (v := .tuple #[.agg Exp.zero.cells.toArray, .bool false, .int .i64 10]) (by simp [results, Tryz.results105, go_sem, Exp.cells, Exp.zero, mkS]) rfl ?_
    rw [Hr.out]
    refine ⟨rfl, ?_⟩
    repeat first | exact Below.refl _ _ | refine Below.setCell ?_ (Nat.le_refl _) _ | refine Below.alloc ?_ (Nat.le_refl _) _
  have hd1 : decide ((255 : Int) < (name.length : Int)) = false := by simp; omega
  have hd2 : decide (255 < name.length) = false := by simp; omega
  by_cases hne : l = []
  · subst hne
    have Hr := hid (show findT [] name = (Exp.zero, false, 0) from by unfold findT; rw [if_neg h255, if_pos rfl])
    clear h255 h
    go_enter Tryz.func105, Tryz.ntmps105
    go_wp2_with fail
    refine bodyPost_ret (v := .tuple #[.agg Exp.zero.cells.toArray, .bool false, .int .i64 0]) (by simp [results, Tryz.results105, go_sem, Exp.cells, Exp.zero, mkS]) rfl ?_
    rw [Hr.out]
    refine ⟨rfl, ?_⟩
    repeat first | exact Below.refl _ _ | refine Below.setCell ?_ (Nat.le_refl _) _ | refine Below.alloc ?_ (Nat.le_refl _) _
  have hpos := List.length_pos_iff.2 hne
  have hd3 : ((l.length : Int) == 0) = false := by rw [beq_eq_false_iff_ne]; omega
  have hd4 : (l.length == 0) = false := by rw [beq_eq_false_iff_ne]; omega
  have Hr := hid (show findT l name = findF l name (name.length + 1) 0 name [] from by unfold findT; rw [if_neg h255, if_neg hne])
  obtain ⟨r, hr⟩ : ∃ r, r = findT l name := ⟨_, rfl⟩
  rw [← hr] at Hr hbd ⊢
  have H0 := hid (And.intro (h.below ((Below.refl _ _).alloc (Nat.le_refl _) (.cells Exp.zero.cells.toArray 25))) (And.intro het (And.intro hne (And.intro h255 hbd))))
  clear h het hne h255 hr hbd
  go_enter Tryz.func105, Tryz.ntmps105
  go_wp2_with fail
  refine (cur_new (w.alloc (.cells Exp.zero.cells.toArray 25)) p l.length cap l false H0.out.1).mono ?_
  rintro e w1 ⟨c, rfl, hc, hcu, hb⟩
  have hsz0 : (w.alloc (.cells Exp.zero.cells.toArray 25)).heap.size = w.heap.size + 1 := by simp
  rw [hsz0] at hc hb
  clear hsz0
  have hres : RowAt w1 w.heap.size 25 Exp.zero.cells.toArray := (hb.block w.heap.size (by omega)).trans (heap_alloc_new w _)
  have hlow : Below w.heap.size w w1 := ((Below.refl _ _).alloc (Nat.le_refl _) _).trans (hb.mono (by omega))
  have h1 := CurAt.lt hcu
  have hS : FS Bad w (w1.alloc (.cells #[.string (mkS name)] 9)) w.heap.size c w1.heap.size l 0 name [] (.slice none 0 0) := by
    have hba : Below w1.heap.size w1 (w1.alloc (.cells #[.string (mkS name)] 9)) := (Below.refl _ _).alloc (Nat.le_refl _) _
    exact ⟨(hba.block _ hres.lt).trans hres, CurAt.below hcu hba, heap_alloc_new _ _, World.ownsRow_nil _ _ _ _, (fun e => by cases e), hlow.trans (hba.mono (by have := hlow.size; omega)), H0.out.2.1, Nat.le_refl _, by omega, h1⟩
  have H1 := hid hS
  clear hc hcu hb hres hlow h1 hS
  go_wp2_with fail
  obtain ⟨X, hX⟩ : ∃ X, X = w.heap.size := ⟨_, rfl⟩
  have HX := hid hX
  rw [← hX] at H1
  try rw [← hX]
  clear hX
  go_loopg [8, 9, 10] name.length (fun k v8 v9 v10 wr => FRel Bad w X c l name r k v8 v9 v10 wr)
  case atStart => exact ⟨0, name, [], w1.heap.size, 0, rfl, rfl, rfl, by simp; have := H0.out.2.2.2.1; omega, by omega, H1.out, Hr.out.symm⟩
  case round =>
    obtain ⟨at_, rest, walk, K, kk, rfl, rfl, hk, hwl, hat, hS, hfi⟩ := hrel
    have x0 : wr.cell? ⟨X, 0, none⟩ = some (.string ⟨#[]⟩) := cell_of_row wr X 0 _ _ _ hS.res
    have x1 : wr.cell? ⟨X, 1, none⟩ = some (.int .i64 0) := cell_of_row wr X 1 _ _ _ hS.res
    have x2 : wr.cell? ⟨X, 2, none⟩ = some (.bool false) := cell_of_row wr X 2 _ _ _ hS.res
    have x3 : wr.cell? ⟨X, 3, none⟩ = some (.int .u64 0) := cell_of_row wr X 3 _ _ _ hS.res
    have x4 : wr.cell? ⟨X, 4, none⟩ = some (.int .u64 0) := cell_of_row wr X 4 _ _ _ hS.res
    have x5 : wr.cell? ⟨X, 5, none⟩ = some (.int .u64 0) := cell_of_row wr X 5 _ _ _ hS.res
    have x6 : wr.cell? ⟨X, 6, none⟩ = some (.string ⟨#[]⟩) := cell_of_row wr X 6 _ _ _ hS.res
    have xf : ∀ i, wr.frozen? ⟨X, i, none⟩ = false := fun i => frozen_of_row wr X i _ _ hS.res
    have z0 : wr.setCell ⟨X, 0, none⟩ (.string ⟨#[]⟩) = wr := setCell_self hS.res 0 _ rfl
    have z1 : wr.setCell ⟨X, 1, none⟩ (.int .i64 0) = wr := setCell_self hS.res 1 _ rfl
    have z2 : wr.setCell ⟨X, 2, none⟩ (.bool false) = wr := setCell_self hS.res 2 _ rfl
    have z3 : wr.setCell ⟨X, 3, none⟩ (.int .u64 0) = wr := setCell_self hS.res 3 _ rfl
    have z4 : wr.setCell ⟨X, 4, none⟩ (.int .u64 0) = wr := setCell_self hS.res 4 _ rfl
    have z5 : wr.setCell ⟨X, 5, none⟩ (.int .u64 0) = wr := setCell_self hS.res 5 _ rfl
    have z6 : wr.setCell ⟨X, 6, none⟩ (.string ⟨#[]⟩) = wr := setCell_self hS.res 6 _ rfl
    have HS := hid (And.intro hS hfi)
    have Hk := hid hk
    clear hS hfi hk
    by_cases hneg : at_ < 0
    · have hd5 : decide (at_ < 0) = true := by simp; omega
      have HN := hid hneg
      clear hneg
      go_wp2_with fail
      refine bodyPost_ret (v := .tuple #[.agg Exp.zero.cells.toArray, .bool false, .int .i64 12]) (by simp [results, Tryz.results105, go_sem, Exp.cells, Exp.zero, mkS, x0, x1, x2, x3, x4, x5, x6]) rfl ?_
      have he := HS.out.2
      rw [findF_lost (.inl HN.out)] at he
      rw [← he]
      exact ⟨rfl, HX.out ▸ HS.out.1.low⟩
    obtain ⟨a, rfl⟩ : ∃ a : Nat, at_ = a := ⟨at_.toNat, by omega⟩
    have hd5 : decide ((a : Int) < 0) = false := by simp
    have HN := hid hneg
    clear hneg
    obtain ⟨wp, wcap, hvw⟩ := ownsRow_form HS.out.1.wal
    subst hvw
    have Hhas := hid (has_int wr (c + 1) 3 _ walk a HS.out.1.wal (by omega))
    obtain ⟨hb, hhb⟩ : ∃ hb, hb = walk.contains (a : Int) := ⟨_, rfl⟩
    rw [← hhb] at Hhas
    have Hhb := hid hhb
    clear hhb
    go_wp2_with fail
    refine Hhas.out.mono ?_
    rintro e w' ⟨rfl, rfl⟩
    cases hb with
    | true =>
      go_wp2_with fail
      refine bodyPost_ret (v := .tuple #[.agg Exp.zero.cells.toArray, .bool false, .int .i64 12]) (by simp [results, Tryz.results105, go_sem, Exp.cells, Exp.zero, mkS, x0, x1, x2, x3, x4, x5, x6]) rfl ?_
      have he := HS.out.2
      rw [findF_lost (.inr Hhb.out.symm)] at he
      rw [← he]
      exact ⟨rfl, HX.out ▸ HS.out.1.low⟩
    | false =>
      have HW := hid (show ¬ ((a : Int) < 0 ∨ walk.contains (a : Int) = true) from fun h => h.elim (fun h => by have := HN.out; omega) (fun h => by rw [← Hhb.out] at h; cases h))
      clear x0 x1 x2 x3 x4 x5 x6 xf z0 z1 z2 z3 z4 z5 z6
      obtain ⟨i0, hi, hz0, hz1, hz2⟩ := info_parts Tryz.infoInt
      have H8 := hid (And.intro hi (And.intro hz0 (And.intro hz1 hz2)))
      clear hi hz0 hz1 hz2
      have hcs : c + 1 ≤ wr.heap.size := CurAt.lt HS.out.1.cur
      go_wp2_with (at_builtin; refine wpList_append_grew _ rfl _ _ _ _ rfl (c + 1) 3 i0 _ 1 8 Tryz.underlying66 H8.out.1 H8.out.2.1 H8.out.2.2.1 H8.out.2.2.2 rfl _ walk.length (intCells walk) rfl (ownsRow_below HS.out.1.wal ((Below.refl _ _).alloc (Nat.le_refl _) _)) _ 1 [.int .i64 (a : Int)] rfl (Src.laid _ Tryz.underlying66 [.int .i64 (a : Int)] 1 rfl (by simp [Value.oneCell']) (0, 0) (by simp)) ?c3 ?c4 ?c5 ?_)
      case c3 => exact Nat.le_trans (show walk.length + 1 ≤ 5000 by omega) (by decide)
      case c4 => omega
      case c5 => simp; omega
      intro v1 W5 hl1 hg1
      have hg1 : Grew wr W5 _ v1 := Grew.under ((Below.refl _ _).alloc (Nat.le_refl _) _) hg1
      obtain ⟨vp, vc, hv1⟩ := ownsRow_form hl1
      subst hv1
      have H5 := hid (HS.out.1.put (a := (a : Int)) hg1 (by unfold intCells at hl1 ⊢; rw [List.map_append, List.length_append]; exact hl1))
      clear hl1 hg1 hcs
      go_wp2_with fail
      refine (trie_read W5 c kk a l hcp.2.2 H0.out.2.2.1 H5.out.cur H5.out.et (fun h => H0.out.2.2.2.2 (by have he := HS.out.2; rw [findF_none HW.out (by rw [Int.toNat_natCast]; exact h)] at he; rw [← he]; simp)) (by omega)).mono ?_
      rintro e W2 ⟨nv, b, rfl, ⟨s2, hc2, hb2⟩, hg2, x, en, kv, rfl, ⟨kp, kn, kc, rfl⟩, hR⟩
      cases b with
      | false =>
        have hr : readM l a = none := by
          cases hr : readM l a with
          | none => rfl
          | some n => rw [hr] at hR; exact absurd hR.1 (by simp)
        have hr6 : RowAt W2 X 25 Exp.zero.cells.toArray := H5.out.res.grown hg2 (fun e => by have := Option.some.inj e; have := H5.out.ord; omega)
        have hba : Below W2.heap.size W2 (W2.alloc (.cells (nodeCells x en (.slice kp kn kc)) 189)) := (Below.refl _ _).alloc (Nat.le_refl _) _
        have hlow : Below w.heap.size w (W2.alloc (.cells (nodeCells x en (.slice kp kn kc)) 189)) := (H5.out.low.grown hg2 H5.out.low.size (fun j e => by have := Option.some.inj e; have := H5.out.ord; omega)).trans (hba.mono (Nat.le_trans H5.out.low.size hg2.size))
        have hr7 : RowAt (W2.alloc (.cells (nodeCells x en (.slice kp kn kc)) 189)) X 25 Exp.zero.cells.toArray := (hba.block _ hr6.lt).trans hr6
        clear hba hr6
        go_upto_region 13 with fail
        obtain ⟨W3, hW3⟩ : ∃ W3, W3 = W2.alloc (.cells (nodeCells x en (.slice kp kn kc)) 189) := ⟨_, rfl⟩
        rw [← hW3] at hlow hr7
        rw [show W2.alloc (.cells #[.string (mkS x.name), .int .i64 x.kind, .bool x.weak, .int .u64 (x.value : Int), .int .u64 (x.resolver : Int), .int .u64 (x.ordinal : Int), .string (mkS x.other), .bool en, .slice kp kn kc] 189) = W3 from hW3.symm]
        clear hW3
        have x0 : W3.cell? ⟨X, 0, none⟩ = some (.string ⟨#[]⟩) := cell_of_row W3 X 0 _ _ _ hr7
        have x1 : W3.cell? ⟨X, 1, none⟩ = some (.int .i64 0) := cell_of_row W3 X 1 _ _ _ hr7
        have x2 : W3.cell? ⟨X, 2, none⟩ = some (.bool false) := cell_of_row W3 X 2 _ _ _ hr7
        have x3 : W3.cell? ⟨X, 3, none⟩ = some (.int .u64 0) := cell_of_row W3 X 3 _ _ _ hr7
        have x4 : W3.cell? ⟨X, 4, none⟩ = some (.int .u64 0) := cell_of_row W3 X 4 _ _ _ hr7
        have x5 : W3.cell? ⟨X, 5, none⟩ = some (.int .u64 0) := cell_of_row W3 X 5 _ _ _ hr7
        have x6 : W3.cell? ⟨X, 6, none⟩ = some (.string ⟨#[]⟩) := cell_of_row W3 X 6 _ _ _ hr7
        have xf : ∀ i, W3.frozen? ⟨X, i, none⟩ = false := fun i => frozen_of_row W3 X i _ _ hr7
        have z0 : W3.setCell ⟨X, 0, none⟩ (.string ⟨#[]⟩) = W3 := setCell_self hr7 0 _ rfl
        have z1 : W3.setCell ⟨X, 1, none⟩ (.int .i64 0) = W3 := setCell_self hr7 1 _ rfl
        have z2 : W3.setCell ⟨X, 2, none⟩ (.bool false) = W3 := setCell_self hr7 2 _ rfl
        have z3 : W3.setCell ⟨X, 3, none⟩ (.int .u64 0) = W3 := setCell_self hr7 3 _ rfl
        have z4 : W3.setCell ⟨X, 4, none⟩ (.int .u64 0) = W3 := setCell_self hr7 4 _ rfl
        have z5 : W3.setCell ⟨X, 5, none⟩ (.int .u64 0) = W3 := setCell_self hr7 5 _ rfl
        have z6 : W3.setCell ⟨X, 6, none⟩ (.string ⟨#[]⟩) = W3 := setCell_self hr7 6 _ rfl
        have He := hid (And.intro hlow hr)
        clear hlow hr hR hr7 hb2 hc2 hg2
        go_wp2_with fail
        refine bodyPost_ret (v := .tuple #[.agg Exp.zero.cells.toArray, .bool false, .int .i64 12]) (by simp [results, Tryz.results105, go_sem, Exp.cells, Exp.zero, mkS, x0, x1, x2, x3, x4, x5, x6]) rfl ?_
        have he := HS.out.2
        rw [findF_none HW.out (by rw [Int.toNat_natCast]; exact He.out.2)] at he
        rw [← he]
        exact ⟨rfl, HX.out ▸ He.out.1⟩
      | true =>
        obtain ⟨n, hr⟩ : ∃ n, readM l a = some n := by
          cases hr : readM l a with
          | none => rw [hr] at hR; cases hR
          | some n => exact ⟨n, rfl⟩
        rw [hr] at hR
        obtain ⟨-, rfl, rfl, hkb⟩ := hR
        have hS2 : FS Bad w W2 X c K l s2.at_ rest (walk ++ [(a : Int)]) _ := H5.out.call (by rw [← cu_good (hb2 rfl)]; exact hc2) hg2
        have hba : Below W2.heap.size W2 (W2.alloc (.cells (nodeCells n.says n.ends (.slice kp kn kc)) 189)) := (Below.refl _ _).alloc (Nat.le_refl _) _
        have hS3 := hS2.below hba
        have hN := hS2.ro.lt
        have hkN : (Value.slice kp kn kc).ownBlock ≠ some W2.heap.size := fun e => Nat.lt_irrefl _ (World.ownsRow.lt hkb _ e).2
        have hkK : (Value.slice kp kn kc).ownBlock ≠ some K := fun e => by have h1 := (World.ownsRow.lt hkb _ e).1; have h2 := H5.out.ro.lt; omega
        have hvN : (Value.slice vp (walk.length + 1) vc).ownBlock ≠ some W2.heap.size := fun e => Nat.lt_irrefl _ (World.ownsRow.lt hS2.wal _ e).2
        have hrow : RowAt (W2.alloc (.cells (nodeCells n.says n.ends (.slice kp kn kc)) 189)) W2.heap.size 189 _ := heap_alloc_new W2 _
        have hkb3 := ownsRow_below hkb hba
        go_upto_region 14 with fail
        obtain ⟨N, hNe⟩ : ∃ N, N = W2.heap.size := ⟨_, rfl⟩
        obtain ⟨W3, hW3⟩ : ∃ W3, W3 = W2.alloc (.cells (nodeCells n.says n.ends (.slice kp kn kc)) 189) := ⟨_, rfl⟩
        rw [← hNe, ← hW3] at hrow
        rw [← hW3] at hS3 hkb3
        rw [← hNe] at hkN hvN hN
        rw [← hNe]
        rw [show W2.alloc (.cells #[.string (mkS n.says.name), .int .i64 n.says.kind, .bool n.says.weak, .int .u64 (n.says.value : Int), .int .u64 (n.says.resolver : Int), .int .u64 (n.says.ordinal : Int), .string (mkS n.says.other), .bool n.ends, .slice kp kn kc] 189) = W3 from hW3.symm]
        clear hW3 hNe hba hS2 hkb hb2 hc2 hg2
        have k0 : W3.cell? ⟨K, 0, none⟩ = some (.string (mkS rest)) := cell_of_row W3 K 0 _ _ _ hS3.ro
        have H6 := hid (And.intro hS3 (And.intro hkb3 (And.intro hkN (And.intro hkK (And.intro hvN (And.intro hrow (And.intro hr hN)))))))
        have hcN : c < N := by have := hS3.ord; omega
        have HcN := hid hcN
        clear hkN hkK hvN hr hcN hS3 hrow hN
        by_cases h0 : rest = []
        · subst h0
          have n0 : W3.cell? ⟨N, 0, none⟩ = some (.string (mkS n.says.name)) := cell_of_row W3 N 0 _ _ _ H6.out.2.2.2.2.2.1
          have nf : W3.frozen? ⟨N, 0, none⟩ = false := frozen_of_row W3 N 0 _ _ H6.out.2.2.2.2.2.1
          go_upto_region 16 with fail
          have h4 := H6.out.1.far (i := 0) HcN.out (by have := H6.out.2.2.2.2.2.2.2; omega) H6.out.2.2.2.2.1 (.string (mkS name))
          have hX4 : RowAt (W3.setCell ⟨N, 0, none⟩ (.string (mkS name))) N 189 (nodeCells { n.says with name := name } n.ends (.slice kp kn kc)) := by
            unfold RowAt; rw [heap_setCell_same _ _ _ _ _ _ H6.out.2.2.2.2.2.1]; rfl
          obtain ⟨W4, hW4⟩ : ∃ W4, W4 = W3.setCell ⟨N, 0, none⟩ (.string (mkS name)) := ⟨_, rfl⟩
          rw [← hW4] at h4 hX4 ⊢
          clear hW4 n0 nf k0
          obtain ⟨y, hy⟩ : ∃ y : Exp, y = { n.says with name := name } := ⟨_, rfl⟩
          obtain ⟨E, hE⟩ : ∃ E, E = n.ends := ⟨_, rfl⟩
          rw [← hy, ← hE] at hX4
          have n0 : W4.cell? ⟨N, 0, none⟩ = some (.string (mkS y.name)) := cell_of_row W4 N 0 _ _ _ hX4
          have n1 : W4.cell? ⟨N, 1, none⟩ = some (.int .i64 y.kind) := cell_of_row W4 N 1 _ _ _ hX4
          have n2 : W4.cell? ⟨N, 2, none⟩ = some (.bool y.weak) := cell_of_row W4 N 2 _ _ _ hX4
          have n3 : W4.cell? ⟨N, 3, none⟩ = some (.int .u64 (y.value : Int)) := cell_of_row W4 N 3 _ _ _ hX4
          have n4 : W4.cell? ⟨N, 4, none⟩ = some (.int .u64 (y.resolver : Int)) := cell_of_row W4 N 4 _ _ _ hX4
          have n5 : W4.cell? ⟨N, 5, none⟩ = some (.int .u64 (y.ordinal : Int)) := cell_of_row W4 N 5 _ _ _ hX4
          have n6 : W4.cell? ⟨N, 6, none⟩ = some (.string (mkS y.other)) := cell_of_row W4 N 6 _ _ _ hX4
          have n7 : W4.cell? ⟨N, 7, none⟩ = some (.bool E) := cell_of_row W4 N 7 _ _ _ hX4
          have n8 : W4.cell? ⟨N, 8, none⟩ = some (.slice kp kn kc) := cell_of_row W4 N 8 _ _ _ hX4
          have hfind : r = if E then (y, true, 0) else (Exp.zero, false, 0) := by
            have he := HS.out.2
            rw [findF_here HW.out (by rw [Int.toNat_natCast]; exact H6.out.2.2.2.2.2.2.1) rfl, ← hy, ← hE] at he
            exact he.symm
          have H7 := hid (And.intro h4 hfind)
          clear h4 hX4 hfind hy hE
          go_wp2_with fail
          refine (node_told W4 y E kp kn kc).mono ?_
          rintro e W5 ⟨rfl, hb5⟩
          have h8 := H7.out.1.below hb5
          obtain ⟨z, hz⟩ : ∃ z, z = if E then y else Exp.zero := ⟨_, rfl⟩
          rw [← hz]
          have hz2 : r = (z, E, 0) := by rw [H7.out.2, hz]; cases E <;> rfl
          have x0 : W5.cell? ⟨X, 0, none⟩ = some (.string ⟨#[]⟩) := cell_of_row W5 X 0 _ _ _ h8.res
          have x1 : W5.cell? ⟨X, 1, none⟩ = some (.int .i64 0) := cell_of_row W5 X 1 _ _ _ h8.res
          have x2 : W5.cell? ⟨X, 2, none⟩ = some (.bool false) := cell_of_row W5 X 2 _ _ _ h8.res
          have x3 : W5.cell? ⟨X, 3, none⟩ = some (.int .u64 0) := cell_of_row W5 X 3 _ _ _ h8.res
          have x4 : W5.cell? ⟨X, 4, none⟩ = some (.int .u64 0) := cell_of_row W5 X 4 _ _ _ h8.res
          have x5 : W5.cell? ⟨X, 5, none⟩ = some (.int .u64 0) := cell_of_row W5 X 5 _ _ _ h8.res
          have x6 : W5.cell? ⟨X, 6, none⟩ = some (.string ⟨#[]⟩) := cell_of_row W5 X 6 _ _ _ h8.res
          have xf : ∀ i, W5.frozen? ⟨X, i, none⟩ = false := fun i => frozen_of_row W5 X i _ _ h8.res
          have H8 := hid (And.intro h8.low hz2)
          clear h8 hz hz2 hb5 n0 n1 n2 n3 n4 n5 n6 n7 n8
          have hzc : z.cells.toArray = #[.string (mkS z.name), .int .i64 z.kind, .bool z.weak, .int .u64 z.value, .int .u64 z.resolver, .int .u64 z.ordinal, .string (mkS z.other)] := rfl
          rw [hzc]
          clear hzc
          go_wp2_with fail
          refine bodyPost_ret (v := .tuple #[.agg z.cells.toArray, .bool E, .int .i64 0]) (by simp [results, Tryz.results105, go_sem, Exp.cells, x0, x1, x2, x3, x4, x5, x6]) rfl ?_
          rw [H8.out.2]
          refine ⟨rfl, ?_⟩
          have hXl : w.heap.size ≤ X := by have := HX.out; omega
          exact ((((((H8.out.1.setCell (p := ⟨X, 0, none⟩) hXl _).setCell (p := ⟨X, 1, none⟩) hXl _).setCell (p := ⟨X, 2, none⟩) hXl _).setCell (p := ⟨X, 3, none⟩) hXl _).setCell (p := ⟨X, 4, none⟩) hXl _).setCell (p := ⟨X, 5, none⟩) hXl _).setCell (p := ⟨X, 6, none⟩) hXl _
        · have hr0 : rest.isEmpty = false := by rw [List.isEmpty_eq_false_iff]; exact h0
          have Hr0 := hid h0
          clear h0
          have n8 : W3.cell? ⟨N, 8, none⟩ = some (.slice kp kn kc) := cell_of_row W3 N 8 _ _ _ H6.out.2.2.2.2.2.1
          have hmf : ∀ (fn : Fn) (first cap : Array Value) (w : World), (Instr.makeFunc fn first cap).run Tryz.prog w = .ok (.func fn first cap) w := fun _ _ _ _ => rfl
          go_wp2_with fail
          refine (index_kids W3 _ K _ n.kids rest H6.out.2.1 H6.out.1.ro.lt (by exact k0)).mono ?_
          rintro e W4 ⟨rfl, hb4⟩
          cases hkx : n.kids.find? (fun k => k.edge.isPrefixOf rest) with
          | none =>
            have hix := kidIx_none (find_not hkx)
            rw [hix]
            have h4 := H6.out.1.below hb4
            have x0 : W4.cell? ⟨X, 0, none⟩ = some (.string ⟨#[]⟩) := cell_of_row W4 X 0 _ _ _ h4.res
            have x1 : W4.cell? ⟨X, 1, none⟩ = some (.int .i64 0) := cell_of_row W4 X 1 _ _ _ h4.res
            have x2 : W4.cell? ⟨X, 2, none⟩ = some (.bool false) := cell_of_row W4 X 2 _ _ _ h4.res
            have x3 : W4.cell? ⟨X, 3, none⟩ = some (.int .u64 0) := cell_of_row W4 X 3 _ _ _ h4.res
            have x4 : W4.cell? ⟨X, 4, none⟩ = some (.int .u64 0) := cell_of_row W4 X 4 _ _ _ h4.res
            have x5 : W4.cell? ⟨X, 5, none⟩ = some (.int .u64 0) := cell_of_row W4 X 5 _ _ _ h4.res
            have x6 : W4.cell? ⟨X, 6, none⟩ = some (.string ⟨#[]⟩) := cell_of_row W4 X 6 _ _ _ h4.res
            have xf : ∀ i, W4.frozen? ⟨X, i, none⟩ = false := fun i => frozen_of_row W4 X i _ _ h4.res
            have z0 : W4.setCell ⟨X, 0, none⟩ (.string ⟨#[]⟩) = W4 := setCell_self h4.res 0 _ rfl
            have z1 : W4.setCell ⟨X, 1, none⟩ (.int .i64 0) = W4 := setCell_self h4.res 1 _ rfl
            have z2 : W4.setCell ⟨X, 2, none⟩ (.bool false) = W4 := setCell_self h4.res 2 _ rfl
            have z3 : W4.setCell ⟨X, 3, none⟩ (.int .u64 0) = W4 := setCell_self h4.res 3 _ rfl
            have z4 : W4.setCell ⟨X, 4, none⟩ (.int .u64 0) = W4 := setCell_self h4.res 4 _ rfl
            have z5 : W4.setCell ⟨X, 5, none⟩ (.int .u64 0) = W4 := setCell_self h4.res 5 _ rfl
            have z6 : W4.setCell ⟨X, 6, none⟩ (.string ⟨#[]⟩) = W4 := setCell_self h4.res 6 _ rfl
            have He := hid (And.intro h4.low hkx)
            clear h4 hkx hix hb4 k0 n8
            go_wp2_with fail
            refine bodyPost_ret (v := .tuple #[.agg Exp.zero.cells.toArray, .bool false, .int .i64 0]) (by simp [results, Tryz.results105, go_sem, Exp.cells, Exp.zero, mkS, x0, x1, x2, x3, x4, x5, x6]) rfl ?_
            have he := HS.out.2
            rw [findF_out HW.out (by rw [Int.toNat_natCast]; exact H6.out.2.2.2.2.2.2.1) Hr0.out He.out.2] at he
            rw [← he]
            exact ⟨rfl, HX.out ▸ He.out.1⟩
          | some kd =>
            obtain ⟨i, hi1, hi2, hi3⟩ := find_at hkx
            have hix := kidIx_some hi1 hi2 hi3
            rw [hix]
            have h4 := H6.out.1.below hb4
            have hkb4 := ownsRow_below H6.out.2.1 hb4
            have hlt := (List.getElem?_eq_some_iff.1 hi1).1
            have hN4 : RowAt W4 N _ _ := (hb4.block N H6.out.2.2.2.2.2.1.lt).trans H6.out.2.2.2.2.2.1
            obtain ⟨g, gc, hg, hgl, e0, e1⟩ := kb_at hkb4 hi1
            obtain ⟨hg1, hg2, hg3⟩ := Value.slice.inj hg
            subst hg1
            subst hg2
            subst hg3
            have n8' : W4.cell? ⟨N, 8, none⟩ = some _ := cell_of_row W4 N 8 _ _ _ hN4
            have k0' : W4.cell? ⟨K, 0, none⟩ = some (.string (mkS rest)) := cell_of_row W4 K 0 _ _ _ h4.ro
            have kf' : W4.frozen? ⟨K, 0, none⟩ = false := frozen_of_row W4 K 0 _ _ h4.ro
            have hkne := (readM_kids H6.out.2.2.2.2.2.2.1).1 kd (List.mem_of_getElem? hi1)
            have hkto := readM_to H6.out.2.2.2.2.2.2.1 hpos kd (List.mem_of_getElem? hi1)
            have hpre : kd.edge <+: rest := List.isPrefixOf_iff_prefix.1 hi2
            have hple := hpre.length_le
            have hd6 : decide ((i : Int) < 0) = false := by simp
            have H9 := hid (And.intro h4 (And.intro hkne (And.intro hkto (And.intro hpre hkx))))
            clear h4 hkne hkto hpre hkx hi1 hi2 hi3 hix hkb4 hN4 hb4 hg k0 n8
            go_wp2_with fail
            go_region
            rw [mkS_drop]
            have h10 := (H9.out.1.below ((Below.refl _ _).drew)).on (rest.drop kd.edge.length)
            have k0 : (W4.setCell ⟨K, 0, none⟩ (.string (mkS (rest.drop kd.edge.length)))).drew.cell? ⟨K, 0, none⟩ = some (.string (mkS (rest.drop kd.edge.length))) := World.cell?_setCell_same _ _ _ k0'
            have H10 := hid h10
            clear h10 k0' kf' n8' e0 e1
            go_wp2_with fail
            go_roundg (rest.drop kd.edge.length).length
            case measure =>
              have h1 := List.length_pos_iff.2 H9.out.2.1.1
              rw [List.length_drop, ← Hk.out]; omega
            case rel =>
              refine ⟨kd.to, rest.drop kd.edge.length, walk ++ [(a : Int)], _, _, rfl, rfl, rfl, ?_, H9.out.2.2.1, H10.out, ?_⟩
              · have h1 := List.length_pos_iff.2 H9.out.2.1.1
                rw [List.length_append, List.length_drop]; simp; omega
              · have h1 := List.length_pos_iff.2 H9.out.2.1.1
                have he := HS.out.2
                rw [findF_on HW.out (by rw [Int.toNat_natCast]; exact H6.out.2.2.2.2.2.2.1) Hr0.out H9.out.2.2.2.2] at he
                rw [← he]
                refine findF_fuel ?_ ?_
                · omega
                · rw [List.length_drop]; omega
end Go.Proofs.YthhjdkcnkdffcaaGreat.Eb
