/- What stands while the reference goes over all exports. -/
import Derived.Test.YthhjdkcnkdffcaaGreatZRfE
import Derived.Test.YthhjdkcnkdffcaaGreatZAllB
import Derived.Test.YthhjdkcnkdffcaaGreatZRfK
import Derived.Deep.RegionLaw
import Derived.Deep.DeepCutAuto
import Derived.Test.YthhjdkcnkdffcaaGreatZRfL
namespace Go.Proofs.YthhjdkcnkdffcaaGreat
set_option linter.unusedSimpArgs false
set_option linter.unusedVariables false
open Go.RowKit
/-- The reference's walker. -/
structure DR (w0 W : World) (K : Nat) (p : Option Addr) (cap : Nat) (l : List UInt8) (met : Nat) (out : List Exp) (vo : Value) : Prop where
  row : RowAt W K 143 #[.slice p l.length cap, .int .i64 (met : Int), vo]
  bs : BS W (.slice p l.length cap) l
  far : ∀ k, inBlk (.slice p l.length cap) k → k < K
  own : W.ownsRow (K + 1) 25 7 vo out.length (expCells out)
  low : Below w0.heap.size w0 W
  ord : w0.heap.size ≤ K
/-- What is kept: all blocks but those that are written. -/
structure KR (W W' : World) (K : Nat) (vo vo' : Value) : Prop where
  size : W.heap.size ≤ W'.heap.size
  blk : ∀ k, k < W.heap.size → k ≠ K → vo.ownBlock ≠ some k → W'.heap[k]? = W.heap[k]?
  lo : Lies W vo vo'
theorem KR.trans {W W1 W2 : World} {K : Nat} {vo vo1 vo2 : Value} (h : KR W W1 K vo vo1) (k : KR W1 W2 K vo1 vo2) : KR W W2 K vo vo2 :=
  ⟨Nat.le_trans h.size k.size, fun j hj h1 h2 => (k.blk j (Nat.lt_of_lt_of_le hj h.size) h1 (h.lo.ne hj h2)).trans (h.blk j hj h1 h2), h.lo.trans k.lo h.size⟩
theorem KR.refl (W : World) (K : Nat) (vo : Value) : KR W W K vo vo := ⟨Nat.le_refl _, fun _ _ _ _ => rfl, Lies.refl _ _⟩
theorem KR.below {W W' : World} (K : Nat) (vo : Value) (hb : Below W.heap.size W W') : KR W W' K vo vo := ⟨hb.size, fun k hk _ _ => hb.block k hk, Lies.refl _ _⟩
theorem KR.row {W W' : World} {K : Nat} {vo vo' : Value} (k : KR W W' K vo vo') {X : Nat} {t : TypeId} {vs : Array Value} (h : RowAt W X t vs) (h1 : X ≠ K) (h2 : vo.ownBlock ≠ some X) : RowAt W' X t vs := (k.blk X h.lt h1 h2).trans h
theorem KR.setFar {W W' : World} {K : Nat} {vo vo' : Value} (k : KR W W' K vo vo') {N i : Nat} (hN : W.heap.size ≤ N) (u : Value) : KR W (W'.setCell ⟨N, i, none⟩ u) K vo vo' :=
  ⟨by simpa [World.setCell] using k.size, fun j hj h1 h2 => by rw [heap_setCell_other W' _ j _ (by simp; omega)]; exact k.blk j hj h1 h2, k.lo⟩
section
variable {w0 W W' : World} {K : Nat} {p : Option Addr} {cap : Nat} {l : List UInt8} {met : Nat} {out : List Exp} {vo vo' : Value}
theorem DR.vn (h : DR w0 W K p cap l met out vo) {k : Nat} (hk : k ≤ K) : vo.ownBlock ≠ some k := fun e => by have := (World.ownsRow.lt h.own k e).1; omega
/-- New blocks alone. -/
theorem DR.below (h : DR w0 W K p cap l met out vo) (hb : Below W.heap.size W W') : DR w0 W' K p cap l met out vo :=
  ⟨(hb.block K h.row.lt).trans h.row, h.bs.below hb, h.far, ownsRow_below h.own hb, h.low.trans (hb.mono h.low.size), h.ord⟩
/-- One more node was met. -/
theorem DR.setMet (h : DR w0 W K p cap l met out vo) (m : Nat) : DR w0 (W.setCell ⟨K, 1, none⟩ (.int .i64 (m : Int))) K p cap l m out vo ∧ KR W (W.setCell ⟨K, 1, none⟩ (.int .i64 (m : Int))) K vo vo := by
  have hg := grownBy_setB W K 1 (.int .i64 (m : Int))
  refine ⟨⟨?_, h.bs.grown hg (offB h.far), h.far, ownsRow_setOther h.own (h.vn (Nat.le_refl _)) _, h.low.setCell (by show w0.heap.size ≤ K; exact h.ord) _, h.ord⟩, hg.size, fun k hk h1 _ => hg.block k hk (fun e => h1 (Option.some.inj e)), Lies.refl _ _⟩
  unfold RowAt; rw [heap_setCell_same _ _ _ _ _ _ h.row]; rfl
/-- A store into a block of the call's own. -/
theorem DR.setFar (h : DR w0 W K p cap l met out vo) {N i : Nat} (hN : K < N) (hv : vo.ownBlock ≠ some N) (u : Value) : DR w0 (W.setCell ⟨N, i, none⟩ u) K p cap l met out vo := by
  have hg := grownBy_setB W N i u
  exact ⟨h.row.other (by omega) u, h.bs.grown hg (fun hb => by have := h.far _ hb; omega), h.far, ownsRow_setOther h.own hv u, h.low.setCell (by show w0.heap.size ≤ N; have := h.ord; omega) u, h.ord⟩
/-- One more export. -/
theorem DR.putOut {x : Exp} (h : DR w0 W K p cap l met out vo) (hg : Grew W W' vo vo') (ho : W'.ownsRow (K + 1) 25 7 vo' (out ++ [x]).length (expCells (out ++ [x]))) :
    DR w0 (W'.setCell ⟨K, 2, none⟩ vo') K p cap l met (out ++ [x]) vo' ∧ KR W (W'.setCell ⟨K, 2, none⟩ vo') K vo vo' := by
  have hK := h.row.lt
  have hord := h.ord
  have kb : ∀ j, j ≤ K → W'.heap[j]? = W.heap[j]? := fun j hj => hg.block (by omega) (h.vn hj)
  have hrow : RowAt W' K 143 #[.slice p l.length cap, .int .i64 (met : Int), vo] := (kb K (Nat.le_refl _)).trans h.row
  have hbs : BS W' (.slice p l.length cap) l := h.bs.of_block (fun j hj _ => kb j (Nat.le_of_lt (h.far j hj)))
  have hkn : vo'.ownBlock ≠ some K := fun e => by have := (World.ownsRow.lt ho K e).1; omega
  have hs := grownBy_setB W' K 2 vo'
  refine ⟨⟨?_, hbs.grown hs (offB h.far), h.far, ownsRow_setOther ho hkn _, ?_, h.ord⟩, ?_, fun k hk h1 h4 => ?_, ?_⟩
  · unfold RowAt; rw [heap_setCell_same _ _ _ _ _ _ hrow]; rfl
  · refine Below.setCell ?_ (by show w0.heap.size ≤ K; exact h.ord) _
    exact h.low.trans ((hg.below (B := K + 1) (by omega) (fun k e => (World.ownsRow.lt h.own k e).1)).mono (by omega))
  · simpa [World.setCell] using hg.size
  · rw [heap_setCell_other W' _ k _ (by simp; exact h1)]
    exact hg.block hk h4
  · rcases hg.lies with e | e
    · exact .inl e
    · exact .inr e
theorem DR.cells (h : DR w0 W K p cap l met out vo) : W.cell? ⟨K, 0, none⟩ = some (.slice p l.length cap) ∧ W.cell? ⟨K, 1, none⟩ = some (.int .i64 (met : Int)) ∧ W.cell? ⟨K, 2, none⟩ = some vo ∧ ∀ i, W.frozen? ⟨K, i, none⟩ = false :=
  ⟨cell_of_row W K 0 _ _ _ h.row, cell_of_row W K 1 _ _ _ h.row, cell_of_row W K 2 _ _ _ h.row, fun i => frozen_of_row W K i _ _ h.row⟩
end
/-- A row of the call's own that is none of those that are written. -/
theorem KR.own {W W' : World} {K : Nat} {vo vo' u : Value} (k : KR W W' K vo vo') {base : Nat} {e : TypeId} {size n : Nat} {xs : List Value} (h : W.ownsRow base e size u n xs) (hb : K < base) (ha : Apart u vo) : W'.ownsRow base e size u n xs ∧ Apart u vo' := by
  refine ⟨ownsRow_block h (fun j hj => ?_), fun j hj => k.lo.ne (World.ownsRow.lt h j hj).2 (ha j hj)⟩
  have h1 := World.ownsRow.lt h j hj
  exact k.blk j h1.2 (by omega) (ha j hj)
/-- A row of whole numbers, as what is appended. -/
theorem Src.ints {P : Program} {w : World} {base : Nat} {e tx e' : TypeId} (hk : P.underlying tx = some (.slice e')) {v : Value} {l : List Int} (h : w.ownsRow base e 1 v l.length (intCells l)) : Src P 1 tx v l.length (intCells l) w := by
  have h0 := h
  rcases h.2 with ⟨rfl, h1⟩ | ⟨g, cap, cur, rfl, hb, hg, hnc, hcm, hcs, htake⟩
  · obtain rfl : l = [] := List.eq_nil_of_length_eq_zero h1
    exact Src.ofNil w hk 0
  · refine Src.ofSlice w hk _ l.length cap (intCells l) (by simp [intCells]) (fun j u hu => ?_) (fun u hu => ?_)
    · have e1 : (⟨g, 0, none⟩ : Addr).add j = ⟨g, j, none⟩ := by unfold Addr.add; split <;> simp_all
      have hj : j < l.length := by have := (List.getElem?_eq_some_iff.1 hu).1; simpa [intCells] using this
      rw [e1, h0.cellAt j (by simpa using hj)]
      exact hu
    · obtain ⟨y, _, rfl⟩ := List.mem_map.1 hu
      rfl
/-- What a call of Down brings about. -/
def DownEndR (w0 W : World) (K : Nat) (p : Option Addr) (cap : Nat) (l : List UInt8) (vo : Value) (r : Nat × DownSt) (e : Ending) (W' : World) : Prop :=
  e = .returned (.int .i64 (r.1 : Int)) ∧ ∃ vo', DR w0 W' K p cap l r.2.met r.2.out vo' ∧ KR W W' K vo vo'
theorem downEndR {w0 W W' : World} {K : Nat} {p : Option Addr} {cap : Nat} {l : List UInt8} {vo vo' : Value} {r : Nat × DownSt} (n : Nat) (met : Nat) (out : List Exp) (hr : r = (n, ⟨met, out⟩)) (hd : DR w0 W' K p cap l met out vo') (hk : KR W W' K vo vo') :
    DownEndR w0 W K p cap l vo r (.returned (.int .i64 (n : Int))) W' := by
  subst hr
  exact ⟨rfl, vo', hd, hk⟩
/-- What holds at a round's head: so many children were gone over. -/
def DownRelR (w0 W : World) (K : Nat) (p : Option Addr) (cap : Nat) (l : List UInt8) (vo : Value) (X : Nat) (x : Exp) (e : Bool) (kv hv : Value) (ks : List KidM) (here : List Int) (go : KidM → DownSt → Nat × DownSt) (r : Nat × DownSt) (i : Value) (wr : World) : Prop :=
  ∃ (j : Nat) (st : DownSt) (vo2 : Value), i = .int .i64 (j : Int) ∧ j ≤ ks.length ∧ DR w0 wr K p cap l st.met st.out vo2 ∧ KR W wr K vo vo2 ∧ RowAt wr X 119 (nodeR x e kv) ∧ vo2.ownBlock ≠ some X ∧
    (wr.ownsRow (K + 1) 123 2 kv ks.length (kidCells ks) ∧ Apart kv vo2) ∧ (wr.ownsRow (K + 1) 3 1 hv here.length (intCells here) ∧ Apart hv vo2) ∧ st.met ≤ 8192 ∧ st.out.length ≤ 4096 ∧ eachKid go (ks.drop j) st = r
end Go.Proofs.YthhjdkcnkdffcaaGreat

namespace Go.Proofs.YthhjdkcnkdffcaaGreat
set_option linter.unusedSimpArgs false
set_option linter.unusedVariables false
open Go.RowKit
/-- What stands behind a node that was read: what it says was told, or not. -/
def ToldR (w0 W : World) (K : Nat) (p : Option Addr) (cap : Nat) (l : List UInt8) (vo : Value) (met : Nat) (O : List Exp) (X : Nat) (x : Exp) (e : Bool) (kv : Value) (ks : List KidM) (wx : World) : Prop :=
  ∃ vo1 y, DR w0 wx K p cap l met O vo1 ∧ KR W wx K vo vo1 ∧ RowAt wx X 119 (nodeR y e kv) ∧ vo1.ownBlock ≠ some X ∧ (wx.ownsRow (K + 1) 123 2 kv ks.length (kidCells ks) ∧ Apart kv vo1)
set_option maxHeartbeats 8000000 in
set_option maxRecDepth 100000 in
theorem ref_down (w0 : World) (K : Nat) (p : Option Addr) (cap : Nat) (l : List UInt8) (hl : l.length ≤ 140737488355328) (hne : l ≠ []) : ∀ (f : Nat) (W : World) (at_ : Int) (name : List UInt8) (met : Nat) (out : List Exp) (walk : List Int) (vo wv : Value),
    DR w0 W K p cap l met out vo → W.ownsRow (K + 1) 3 1 wv walk.length (intCells walk) → Apart wv vo → 257 ≤ name.length + f → walk.length + f ≤ 257 → name.length ≤ 600 → met ≤ 8192 → out.length ≤ 4096 → at_ < l.length →
    Calls Tryz.prog 67 #[.pointer (some ⟨K, 0, none⟩), .int .i64 at_, .string (mkS name), wv] W (DownEndR w0 W K p cap l vo (downF l f at_ name walk ⟨met, out⟩)) := by
  intro f
  induction f with
  | zero =>
    intro W at_ name met out walk vo wv hD hwv hap hn hwk hn6 hmet hout hat
    obtain ⟨c0, c1, c2, cf⟩ := hD.cells
    have hw1 : IntKind.i64.wrap ((met : Int) + 1) = (met : Int) + 1 := IntWalk.i64_in _ (by omega)
    have H1 := hid (hD.setMet (met + 1))
    have Hn := hid (show 255 < name.length by omega)
    have hd1 : decide ((255 : Int) < (name.length : Int)) = true := by simp; omega
    have hd2 : decide (255 < name.length) = true := by simp; omega
    obtain ⟨wp, wcap, hvw⟩ := ownsRow_form hwv
    subst hvw
    clear hD hwv hap hn hat
    go_enter Tryz.func67, Tryz.ntmps67
    go_wp2_with fail
    go_ret
    have h1 := H1.out
    rw [Int.natCast_add] at h1
    exact downEndR 10 (met + 1) out (downF_name Hn.out) h1.1 h1.2
  | succ f ih =>
    intro W at_ name met out walk vo wv hD hwv hap hn hwk hn6 hmet hout hat
    obtain ⟨c0, c1, c2, cf⟩ := hD.cells
    have hw1 : IntKind.i64.wrap ((met : Int) + 1) = (met : Int) + 1 := IntWalk.i64_in _ (by omega)
    obtain ⟨wp, wcap, hvw⟩ := ownsRow_form hwv
    subst hvw
    have H1 := hid (hD.setMet (met + 1))
    have HI := hid ih
    have HV := hid (And.intro hwv (And.intro hap hD))
    by_cases h255 : 255 < name.length
    · have Hn := hid h255
      have hd1 : decide ((255 : Int) < (name.length : Int)) = true := by simp; omega
      have hd2 : decide (255 < name.length) = true := by simp; omega
      clear hD hwv hap hn hat h255 ih
      go_enter Tryz.func67, Tryz.ntmps67
      go_wp2_with fail
      go_ret
      have h1 := H1.out
      rw [Int.natCast_add] at h1
      exact downEndR 10 (met + 1) out (downF_name Hn.out) h1.1 h1.2
    have Hn := hid h255
    have hd1 : decide ((255 : Int) < (name.length : Int)) = false := by simp; omega
    have hd2 : decide (255 < name.length) = false := by simp; omega
    clear ih hD hwv hap h255
    go_enter Tryz.func67, Tryz.ntmps67
    go_upto_region 4 with fail
    have h1 := H1.out
    rw [Int.natCast_add] at h1
    obtain ⟨W1, hW1⟩ : ∃ W1, W1 = W.setCell ⟨K, 1, none⟩ (.int .i64 ((met : Int) + 1)) := ⟨_, rfl⟩
    have hc1 : (((1 : Nat) : Int)) = 1 := rfl
    rw [hc1, ← hW1] at h1
    rw [← hW1]
    have hwv1 : W1.ownsRow (K + 1) 3 1 (.slice wp walk.length wcap) walk.length (intCells walk) := (h1.2.own HV.out.1 (by omega) HV.out.2.1).1
    have H2 := hid (And.intro h1.1 (And.intro h1.2 hwv1))
    clear h1 hW1 hc1 c0 c1 c2 cf hd1 hd2 H1 hwv1 hw1
    obtain ⟨c0, c1, c2, cf⟩ := H2.out.1.cells
    rw [Int.natCast_add] at c1
    have hc1 : (((1 : Nat) : Int)) = 1 := rfl
    rw [hc1] at c1
    clear hc1
    have Hhas := hid (ref_has W1 (K + 1) 3 _ walk at_ H2.out.2.2 (by omega))
    obtain ⟨hb, hhb⟩ : ∃ hb, hb = walk.contains at_ := ⟨_, rfl⟩
    rw [← hhb] at Hhas
    have Hhb := hid hhb
    clear hhb
    go_wp2_with fail
    refine Hhas.out.mono ?_
    rintro e w' ⟨rfl, rfl⟩
    cases hb with
    | true =>
      go_wp2_with fail
      go_ret
      exact downEndR 12 (met + 1) out (downF_walk Hn.out Hhb.out.symm) H2.out.1 H2.out.2.1
    | false =>
      have hnw : ¬ walk.contains at_ = true := by rw [← Hhb.out]; simp
      have HW := hid hnw
      clear hnw
      by_cases hmany : 8192 < met + 1
      · have HM := hid hmany
        have hd1 : decide ((8192 : Int) < (met : Int) + 1) = true := by simp; omega
        clear hmany
        go_wp2_with fail
        go_ret
        exact downEndR 11 (met + 1) out (downF_many Hn.out HW.out HM.out) H2.out.1 H2.out.2.1
      have HM := hid hmany
      have hd1 : decide ((8192 : Int) < (met : Int) + 1) = false := by simp; omega
      clear hmany
      by_cases hneg : at_ < 0
      · have HG := hid hneg
        have hd2 : decide (at_ < 0) = true := by simp; omega
        clear hneg
        go_wp2_with fail
        go_ret
        exact downEndR 12 (met + 1) out (downF_neg Hn.out HW.out HM.out HG.out) H2.out.1 H2.out.2.1
      obtain ⟨a, rfl⟩ : ∃ a : Nat, at_ = a := ⟨at_.toNat, by omega⟩
      have HG := hid hneg
      have hd2 : decide ((a : Int) < 0) = false := by simp
      clear hneg
      go_wp2_with fail
      refine (ref_read W1 p l.length cap l a H2.out.1.bs (by omega)).mono ?_
      rintro e w3 ⟨nv, b, rfl, hb3, x, en, kv, rfl, hkvf, hrd⟩
      obtain ⟨kp, kn, kc, rfl⟩ := hkvf
      have h3 := H2.out.1.below hb3
      have hk3 : KR W w3 K vo vo := H2.out.2.1.trans (KR.below K vo hb3)
      have hwv3 : w3.ownsRow (K + 1) 3 1 (.slice wp walk.length wcap) walk.length (intCells walk) := ownsRow_below H2.out.2.2 hb3
      have hK1 : K < W1.heap.size := H2.out.1.row.lt
      cases hr : readM l a with
      | none =>
        rw [hr] at hrd
        have hb : b = false := hrd
        subst hb
        have H3 := hid (And.intro h3 (And.intro hk3 hr))
        clear hb3 hrd h3 hk3 hwv3 hr c0 c1 c2 cf
        go_wp2_with fail
        go_ret
        have hk4 : KR W (w3.alloc (.cells (nodeR x en (.slice kp kn kc)) 119)) K vo vo := H3.out.2.1.trans (KR.below K vo ((Below.refl _ _).alloc (Nat.le_refl _) _))
        exact downEndR 12 (met + 1) out (downF_none Hn.out HW.out HM.out (by have := HG.out; omega) (by rw [Int.toNat_natCast]; exact H3.out.2.2)) (H3.out.1.below ((Below.refl _ _).alloc (Nat.le_refl _) _)) hk4
      | some n =>
        rw [hr] at hrd
        obtain ⟨rfl, hx, hen, hkv⟩ := hrd
        obtain ⟨ka, kca, hka⟩ := ownsRow_form hkv
        obtain ⟨hk1, hk2, hk3'⟩ := Value.slice.inj hka
        subst hk2
        clear hka hk1 hk3'
        have hba : Below w3.heap.size w3 (w3.alloc (.cells (nodeR x en (.slice kp n.kids.length kc)) 119)) := (Below.refl _ _).alloc (Nat.le_refl _) _
        have h4 := h3.below hba
        have hk4 : KR W (w3.alloc (.cells (nodeR x en (.slice kp n.kids.length kc)) 119)) K vo vo := hk3.trans (KR.below K vo hba)
        have hX : RowAt (w3.alloc (.cells (nodeR x en (.slice kp n.kids.length kc)) 119)) w3.heap.size 119 (nodeR x en (.slice kp n.kids.length kc)) := heap_alloc_new w3 _
        have hoX : vo.ownBlock ≠ some w3.heap.size := fun e => by have := (World.ownsRow.lt h3.own _ e).2; omega
        have hkvX : (Value.slice kp n.kids.length kc).ownBlock ≠ some w3.heap.size := fun e => by have := (World.ownsRow.lt hkv _ e).2; omega
        have hkap : Apart (.slice kp n.kids.length kc) vo := fun k hk e => by
          have h1 := (World.ownsRow.lt hkv k hk).1
          have h2 := (World.ownsRow.lt H2.out.1.own k e).2
          omega
        have hkv4 : (w3.alloc (.cells (nodeR x en (.slice kp n.kids.length kc)) 119)).ownsRow (K + 1) 123 2 (.slice kp n.kids.length kc) n.kids.length (kidCells n.kids) := ownsRow_below (ownsRow_base hkv (by omega)) hba
        have hwv4 : (w3.alloc (.cells (nodeR x en (.slice kp n.kids.length kc)) 119)).ownsRow (K + 1) 3 1 (.slice wp walk.length wcap) walk.length (intCells walk) := ownsRow_below hwv3 hba
        have hXK : K < w3.heap.size := h3.row.lt
        have hXW : W.heap.size ≤ w3.heap.size := hk3.size
        obtain ⟨X, hXe⟩ : ∃ X, X = w3.heap.size := ⟨_, rfl⟩
        obtain ⟨W4, hW4⟩ : ∃ W4, W4 = w3.alloc (.cells (nodeR x en (.slice kp n.kids.length kc)) 119) := ⟨_, rfl⟩
        have hW4' : w3.alloc (.cells #[.bool en, .string (mkS x.name), .int .i64 x.kind, .bool x.weak, .int .u64 (x.value : Int), .int .u64 (x.resolver : Int), .int .u64 (x.ordinal : Int), .string (mkS x.other), .slice kp n.kids.length kc] 119) = W4 := hW4.symm
        rw [← hXe] at hX hoX hXK hkvX hXW
        rw [← hW4] at h4 hk4 hX hkv4 hwv4
        have H4 := hid (And.intro h4 (And.intro hk4 (And.intro hX (And.intro hoX (And.intro (And.intro hkv4 hkap) (And.intro hwv4 hkvX))))))
        have Hr := hid (And.intro hr (And.intro hx hen))
        clear c0 c1 c2 cf
        have q0 : W4.cell? ⟨X, 0, none⟩ = some (.bool en) := cell_of_row W4 X 0 _ _ _ hX
        clear hba h4 hk4 hX hoX hkvX hkap hkv4 hwv4 hr hx hen hkv hb3 h3 hk3 hwv3 hd2 hd1 hK1
        rw [show nodeR x en (.slice kp n.kids.length kc) = #[.bool en, .string (mkS x.name), .int .i64 x.kind, .bool x.weak, .int .u64 (x.value : Int), .int .u64 (x.resolver : Int), .int .u64 (x.ordinal : Int), .string (mkS x.other), .slice kp n.kids.length kc] from rfl]
        have HW4 := hid (And.intro hXe hW4')
        clear hXe hW4 hW4'
        go_upto_if 44 with fail
        rw [HW4.out.2, ← HW4.out.1]
        clear HW4
        go_upto_if 46 with fail
        go_cut [] (fun wx => ToldR w0 W K p cap l vo (met + 1) (outN n name out) X x en (.slice kp n.kids.length kc) n.kids wx)
        case first =>
          cases en with
          | false =>
            have e : outN n name out = out := by unfold outN; rw [← Hr.out.2.2]; rfl
            have He := hid e
            clear e
            go_wp2_with fail
            go_meet
            rw [He.out]
            exact ⟨vo, x, H4.out.1, H4.out.2.1, H4.out.2.2.1, H4.out.2.2.2.1, H4.out.2.2.2.2.1⟩
          | true =>
            have e : outN n name out = out ++ [{ x with name := name }] := by unfold outN; rw [← Hr.out.2.2, ← Hr.out.2.1]; rfl
            obtain ⟨y, hy⟩ : ∃ y : Exp, y = { x with name := name } := ⟨_, rfl⟩
            rw [← hy] at e
            have x1 : W4.cell? ⟨X, 1, none⟩ = some (.string (mkS x.name)) := cell_of_row W4 X 1 _ _ _ H4.out.2.2.1
            have xf : W4.frozen? ⟨X, 1, none⟩ = false := frozen_of_row W4 X 1 _ _ H4.out.2.2.1
            have h5 := H4.out.1.setFar (i := 1) hXK H4.out.2.2.2.1 (.string (mkS name))
            have hX5 : RowAt (W4.setCell ⟨X, 1, none⟩ (.string (mkS name))) X 119 (nodeR y true (.slice kp n.kids.length kc)) := by
              rw [hy]; unfold RowAt; rw [heap_setCell_same _ _ _ _ _ _ H4.out.2.2.1]; rfl
            have hk5 := H4.out.2.1.setFar (i := 1) hXW (.string (mkS name))
            have hkv5 : (W4.setCell ⟨X, 1, none⟩ (.string (mkS name))).ownsRow (K + 1) 123 2 (.slice kp n.kids.length kc) n.kids.length (kidCells n.kids) := ownsRow_setOther H4.out.2.2.2.2.1.1 H4.out.2.2.2.2.2.2 _
            have He := hid (And.intro e hy)
            clear e hy q0
            go_upto_region 15 with fail
            obtain ⟨W5, hW5⟩ : ∃ W5, W5 = W4.setCell ⟨X, 1, none⟩ (.string (mkS name)) := ⟨_, rfl⟩
            rw [← hW5] at h5 hX5 hk5 hkv5 ⊢
            clear x1 xf hW5
            obtain ⟨op, ocap, hvo⟩ := ownsRow_form h5.own
            subst hvo
            obtain ⟨c0, c1, c2, cf⟩ := h5.cells
            have y0 : W5.cell? ⟨X, 1, none⟩ = some (.string (mkS y.name)) := cell_of_row W5 X 1 _ _ _ hX5
            have y1 : W5.cell? ⟨X, 2, none⟩ = some (.int .i64 y.kind) := cell_of_row W5 X 2 _ _ _ hX5
            have y2 : W5.cell? ⟨X, 3, none⟩ = some (.bool y.weak) := cell_of_row W5 X 3 _ _ _ hX5
            have y3 : W5.cell? ⟨X, 4, none⟩ = some (.int .u64 (y.value : Int)) := cell_of_row W5 X 4 _ _ _ hX5
            have y4 : W5.cell? ⟨X, 5, none⟩ = some (.int .u64 (y.resolver : Int)) := cell_of_row W5 X 5 _ _ _ hX5
            have y5 : W5.cell? ⟨X, 6, none⟩ = some (.int .u64 (y.ordinal : Int)) := cell_of_row W5 X 6 _ _ _ hX5
            have y6 : W5.cell? ⟨X, 7, none⟩ = some (.string (mkS y.other)) := cell_of_row W5 X 7 _ _ _ hX5
            have hK5 := h5.row.lt
            obtain ⟨i0, hi, hz0, hz1, hz2⟩ := info_parts Tryz.infoExport
            have H5 := hid (And.intro h5 (And.intro hX5 (And.intro hk5 (And.intro hkv5 (And.intro hi (And.intro hz0 (And.intro hz1 hz2)))))))
            clear h5 hX5 hk5 hkv5 hi hz0 hz1 hz2 c1
            go_region_law (refine step_grew _ rfl _ _ _ _ rfl (K + 1) 25 i0 _ 7 72 Tryz.underlying30 H5.out.2.2.2.2.1 H5.out.2.2.2.2.2.1 H5.out.2.2.2.2.2.2.1 H5.out.2.2.2.2.2.2.2 rfl _ out.length (expCells out) rfl (owns_drew (ownsRow_below H5.out.1.own ((Below.refl _ _).alloc (Nat.le_refl _) _))) _ 1 y.cells rfl (src_laidD _ Tryz.underlying30 y.cells 1 rfl (by simp [Exp.cells, Value.oneCell']) (0, 0) rfl) (Nat.le_trans (show out.length + 1 ≤ 5000 by omega) (by decide)) (by omega) (by simp; omega) ?_; intro v1 W6 hl1 hg1; have hg1 : Grew W5 W6 _ v1 := Grew.under (((Below.refl _ _).alloc (Nat.le_refl _) _).drew) hg1; have c2' : W6.cell? ⟨K, 2, none⟩ = some (.slice op out.length ocap) := hg1.cell c2 (H5.out.1.vn (Nat.le_refl _)); have cf' : W6.frozen? ⟨K, 2, none⟩ = false := frozen_of_row W6 K 2 _ _ ((hg1.block hK5 (H5.out.1.vn (Nat.le_refl _))).trans H5.out.1.row); obtain ⟨vp, vc, hv1⟩ := ownsRow_form hl1; subst hv1; have H6 := hid (And.intro hl1 hg1); clear hl1 hg1)
            all_goals
              go_wp2_with fail
              go_meet
              rw [He.out.1]
              have h7 := H5.out.1.putOut (x := y) H6.out.2 (by rw [expCells_snoc, List.length_append]; exact H6.out.1)
              have hoX5 := H4.out.2.2.2.1
              have hkX5 := H4.out.2.2.2.2.2.2
              have hkap := H4.out.2.2.2.2.1.2
              have hown := h7.2.own H5.out.2.2.2.1 (by omega) hkap
              exact ⟨_, y, h7.1, H5.out.2.2.1.trans h7.2, h7.2.row H5.out.2.1 (by omega) hoX5, h7.2.lo.ne H5.out.2.1.lt hoX5, hown⟩
        case rest =>
          obtain ⟨vo1, y, hd, hk, hX, hoX, hkv⟩ := hcut
          obtain ⟨O, hO⟩ : ∃ O, O = outN n name out := ⟨_, rfl⟩
          rw [← hO] at hd
          obtain ⟨oq, oc, ho⟩ := ownsRow_form hd.own
          subst ho
          have hOl : O.length ≤ 4097 := by rw [hO]; have := outN_len n name out; omega
          obtain ⟨c0, c1, c2, cf⟩ := hd.cells
          have hKlt := hd.row.lt
          have hwv := (hk.own HV.out.1 (by omega) HV.out.2.1).1
          have H6 := hid (And.intro hd (And.intro hk (And.intro hX (And.intro hoX (And.intro hkv (And.intro hwv hO))))))
          clear hd hk hX hoX hkv hwv hO q0 c1
          by_cases h6 : 4096 < O.length
          · have hd1 : decide ((4096 : Int) < (O.length : Int)) = true := by simp; omega
            have hd2 : decide (4096 < O.length) = true := by simp; omega
            have H7 := hid h6
            clear h6
            go_wp2_with fail
            go_ret
            exact downEndR 11 (met + 1) O (by rw [downF_most Hn.out HW.out HM.out (by have := HG.out; omega) (by rw [Int.toNat_natCast]; exact Hr.out.1) (by rw [← H6.out.2.2.2.2.2.2]; exact H7.out), H6.out.2.2.2.2.2.2]) H6.out.1 H6.out.2.1
          have hd1 : decide ((4096 : Int) < (O.length : Int)) = false := by simp; omega
          have hd2 : decide (4096 < O.length) = false := by simp; omega
          have H7 := hid h6
          clear h6
          obtain ⟨i0, hi, hz0, hz1, hz2⟩ := info_parts Tryz.infoInt
          have H8 := hid (And.intro hi (And.intro hz0 (And.intro hz1 hz2)))
          clear hi hz0 hz1 hz2
          go_wp2_with (at_builtin; refine wpList_append_grew _ rfl _ _ _ _ rfl (K + 1) 3 i0 _ 1 8 Tryz.underlying66 H8.out.1 H8.out.2.1 H8.out.2.2.1 H8.out.2.2.2 rfl _ 0 [] rfl (World.ownsRow_nil _ _ _ _) _ walk.length (intCells walk) rfl (Src.ints Tryz.underlying66 H6.out.2.2.2.2.2.1) ?c3 ?c4 ?c5 ?_)
          case c3 => exact Nat.le_trans (show 0 + walk.length ≤ 5000 by omega) (by decide)
          case c4 => omega
          case c5 => omega
          intro v1 W7 hl1 hg1
          have hl1 : W7.ownsRow (K + 1) 3 1 v1 walk.length (intCells walk) := by simpa using hl1
          have hb7 : Below wc.heap.size wc W7 := hg1.below (Nat.le_refl _) (fun k e => by cases e)
          have hv1 : ∀ k, v1.ownBlock = some k → wc.heap.size ≤ k := fun k e => by
            rcases hg1.lies with h1 | ⟨j, h1, h2⟩
            · rw [h1] at e; cases e
            · rw [h1] at e; cases e; exact h2
          obtain ⟨vp1, vc1, hve⟩ := ownsRow_form hl1
          subst hve
          have hsz7 := hb7.size
          have H9 := hid (And.intro hl1 (And.intro hb7 hv1))
          clear hl1 hg1 hb7 hv1
          go_wp2_with (at_builtin; refine wpList_append_grew _ rfl _ _ _ _ rfl (K + 1) 3 i0 _ 1 8 Tryz.underlying66 H8.out.1 H8.out.2.1 H8.out.2.2.1 H8.out.2.2.2 rfl _ walk.length (intCells walk) rfl (ownsRow_below H9.out.1 ((Below.refl _ _).alloc (Nat.le_refl _) _)) _ 1 [.int .i64 (a : Int)] rfl (Src.laid _ Tryz.underlying66 [.int .i64 (a : Int)] 1 rfl (by simp [Value.oneCell']) (0, 0) (by simp)) ?c3 ?c4 ?c5 ?_)
          case c3 => exact Nat.le_trans (show walk.length + 1 ≤ 5000 by omega) (by decide)
          case c4 => omega
          case c5 => simp; omega
          intro v2 W8 hl2 hg2
          have hg2 : Grew W7 W8 _ v2 := Grew.under ((Below.refl _ _).alloc (Nat.le_refl _) _) hg2
          have hl2 : W8.ownsRow (K + 1) 3 1 v2 (walk ++ [(a : Int)]).length (intCells (walk ++ [(a : Int)])) := by unfold intCells at hl2 ⊢; rw [List.map_append, List.length_append]; exact hl2
          have hb8 : Below wc.heap.size wc W8 := H9.out.2.1.trans (hg2.below (by omega) H9.out.2.2)
          have hv2 : ∀ k, v2.ownBlock = some k → wc.heap.size ≤ k := fun k e => by
            rcases hg2.lies with h1 | ⟨j, h1, h2⟩
            · exact H9.out.2.2 k (h1.symm.trans e)
            · rw [h1] at e; cases e; omega
          obtain ⟨vp2, vc2, hve⟩ := ownsRow_form hl2
          subst hve
          have hap2 : Apart (.slice vp2 (walk ++ [(a : Int)]).length vc2) (.slice oq O.length oc) := fun k hk e => by
            have h1 := hv2 k hk
            have h2 := (World.ownsRow.lt H6.out.1.own k e).2
            omega
          have H10 := hid (And.intro hl2 (And.intro hb8 hap2))
          clear hl2 hg2 hb8 hv2 hap2 c0 c2 cf hd1 hd2
          go_wp2_with fail
          have hres : downF l (f + 1) (a : Int) name walk ⟨met, out⟩ = eachKid (fun k s => downF l f k.to (name ++ k.edge) (walk ++ [(a : Int)]) s) n.kids ⟨met + 1, O⟩ := by
            rw [downF_kids Hn.out HW.out HM.out (by have := HG.out; omega) (by rw [Int.toNat_natCast]; exact Hr.out.1) (by rw [← H6.out.2.2.2.2.2.2]; exact H7.out), H6.out.2.2.2.2.2.2]
          obtain ⟨go, hgo⟩ : ∃ go : KidM → DownSt → Nat × DownSt, go = fun k s => downF l f k.to (name ++ k.edge) (walk ++ [(a : Int)]) s := ⟨_, rfl⟩
          rw [← hgo] at hres
          obtain ⟨r, hr⟩ : ∃ r, r = downF l (f + 1) (a : Int) name walk ⟨met, out⟩ := ⟨_, rfl⟩
          have HRr := hid hr
          rw [← hr] at hres ⊢
          obtain ⟨ks, hks⟩ : ∃ ks, ks = n.kids := ⟨_, rfl⟩
          have hkne := (readM_kids Hr.out.1).1
          have hkto := readM_to Hr.out.1 (List.length_pos_iff.2 hne)
          have hkv6 := H6.out.2.2.2.2.1
          rw [← hks] at hres hkne hkto hkv6
          have hksl := ownsRow_few hkv6.1
          obtain ⟨here, hhere⟩ : ∃ here, here = walk ++ [(a : Int)] := ⟨_, rfl⟩
          have h10 := H10.out
          rw [← hhere] at hgo h10
          try rw [← hhere]
          have hhl : here.length + f ≤ 257 := by rw [hhere]; simp; omega
          have HGo := hid (And.intro hgo (And.intro hkne (And.intro hkto hres)))
          have hd8 := H6.out.1.below h10.2.1
          have hk8 : KR W W8 K vo (.slice oq O.length oc) := H6.out.2.1.trans (KR.below K _ h10.2.1)
          have hX8 : RowAt W8 X 119 (nodeR y en (.slice kp ks.length kc)) := by have := (h10.2.1.block _ H6.out.2.2.1.lt).trans H6.out.2.2.1; rw [← hks] at this; exact this
          have hkv8 : W8.ownsRow (K + 1) 123 2 (.slice kp ks.length kc) ks.length (kidCells ks) := ownsRow_below hkv6.1 h10.2.1
          have H11 := hid (And.intro hd8 (And.intro hk8 (And.intro hX8 (And.intro H6.out.2.2.2.1 (And.intro (And.intro hkv8 hkv6.2) (And.intro h10.1 h10.2.2))))))
          clear hgo hr hks hkne hkto hres hkv6 h10 hhere hd8 hk8 hX8 hkv8
          go_loopw [12] (fun i wr => DownRelR w0 W K p cap l vo X y en (.slice kp ks.length kc) (.slice vp2 here.length vc2) ks here go r i wr) (fun i _ => ks.length - (intOf i).toNat)
          case atStart => exact ⟨0, ⟨met + 1, O⟩, _, rfl, Nat.zero_le _, H11.out.1, H11.out.2.1, H11.out.2.2.1, H11.out.2.2.2.1, H11.out.2.2.2.2.1, H11.out.2.2.2.2.2, by show met + 1 ≤ 8192; have := HM.out; omega, by show O.length ≤ 4096; have := H7.out; omega, by rw [List.drop_zero]; exact HGo.out.2.2.2.symm⟩
          case round =>
            obtain ⟨j, st, vo2, rfl, hj, hd, hk, hX, hoX, hkv, hhv, hm2, ho2, he⟩ := hrel
            have x8 : wr.cell? ⟨X, 8, none⟩ = some (.slice kp ks.length kc) := cell_of_row wr X 8 _ _ _ hX
            by_cases hlt : j < ks.length
            · have hltz : decide ((j : Int) < (ks.length : Int)) = true := by simp; omega
              obtain ⟨kd, hkd⟩ : ∃ kd, ks[j]? = some kd := ⟨_, List.getElem?_eq_getElem hlt⟩
              obtain ⟨g, gc, hg, hgl, e0, e1⟩ := kidsRow_at hkv.1 hkd
              obtain ⟨hg1, -, hg3⟩ := Value.slice.inj hg
              subst hg1
              subst hg3
              have hdrop : ks.drop j = kd :: ks.drop (j + 1) := by
                obtain ⟨hl2, rfl⟩ := List.getElem?_eq_some_iff.1 hkd
                exact List.drop_eq_getElem_cons hl2
              rw [hdrop] at he
              have hmem := List.mem_of_getElem? hkd
              have hkn := HGo.out.2.1 kd hmem
              have hkt := HGo.out.2.2.1 kd hmem
              obtain ⟨dd, hdd⟩ : ∃ dd, ks.length = j + 1 + dd := ⟨ks.length - j - 1, by omega⟩
              have Hlt := hid hdd
              have hcat : ¬ 9223372036854775807 < name.length + kd.edge.length := by have h5 := Hn.out; have h6 := hkn.2; omega
              have hapm : mkS name ++ mkS kd.edge = mkS (name ++ kd.edge) := mkS_append _ _
              have hnl : (name ++ kd.edge).length ≤ 600 := by rw [List.length_append]; have h5 := Hn.out; have h6 := hkn.2; omega
              have hnf : 257 ≤ (name ++ kd.edge).length + f := by rw [List.length_append]; have h6 := List.length_pos_iff.2 hkn.1; omega
              have hcall := HI.out wr.drew kd.to (name ++ kd.edge) st.met st.out here vo2 (.slice vp2 here.length vc2) (hd.below ⟨rfl, rfl, rfl, Nat.le_refl _, fun _ _ => rfl⟩) hhv.1 hhv.2 hnf hhl hnl hm2 ho2 hkt
              have hgr : go kd st = downF l f kd.to (name ++ kd.edge) here ⟨st.met, st.out⟩ := by rw [HGo.out.1]
              have hmet3 := downF_met l f kd.to (name ++ kd.edge) here ⟨st.met, st.out⟩ hm2
              have hout3 := downF_few l f kd.to (name ++ kd.edge) here ⟨st.met, st.out⟩ ho2
              obtain ⟨r3, hr3⟩ : ∃ r3, r3 = downF l f kd.to (name ++ kd.edge) here ⟨st.met, st.out⟩ := ⟨_, rfl⟩
              rw [← hr3] at hgr hmet3 hout3 hcall
              have H12 := hid (And.intro hd (And.intro hk (And.intro hX (And.intro hoX (And.intro hkv (And.intro hhv (And.intro he hcall)))))))
              have H13 := hid (And.intro hgr (And.intro hmet3 hout3))
              clear hd hk hX hoX hkv hhv he hkn hkt hdrop hkd hmem hg hdd hcall hnl hnf hlt hgr hmet3 hout3 hr3
              have hj0 : (0 : Int) ≤ (j : Int) := by omega
              have hjl : (j : Int) < (ks.length : Int) := by have := Hlt.out; omega
              go_upto_region 22 with fail
              go_cut [13] (fun v wx => v = .int .i64 (r3.1 : Int) ∧ ∃ vo3, DR w0 wx K p cap l r3.2.met r3.2.out vo3 ∧ KR wr.drew wx K vo2 vo3)
              case first =>
                go_region_with (first | (go_at_call 67; (with_reducible refine H12.out.2.2.2.2.2.2.2.mono ?_); rintro e W9 ⟨rfl, vo3, hd3, hk3⟩; have H14 := hid (And.intro hd3 hk3); clear hd3 hk3) | fail "no call")
                all_goals
                  go_wp2_with fail
                  go_meet
                  exact ⟨rfl, vo3, H14.out.1, H14.out.2⟩
              case rest =>
                obtain ⟨rfl, vo3, hd3, hk3⟩ := hcut
                have hk4 : KR W wc K vo vo3 := H12.out.2.1.trans ⟨hk3.size, hk3.blk, hk3.lo⟩
                have hX4 : RowAt wc X 119 (nodeR y en (.slice (some ⟨g, 0, none⟩) ks.length kc)) := (hk3.blk X H12.out.2.2.1.lt (by omega) H12.out.2.2.2.1).trans H12.out.2.2.1
                have hoX4 : vo3.ownBlock ≠ some X := hk3.lo.ne H12.out.2.2.1.lt H12.out.2.2.2.1
                have hkv4 := KR.own (W := wr) ⟨hk3.size, hk3.blk, hk3.lo⟩ H12.out.2.2.2.2.1.1 (Nat.lt_succ_self K) H12.out.2.2.2.2.1.2
                have hhv4 := KR.own (W := wr) ⟨hk3.size, hk3.blk, hk3.lo⟩ H12.out.2.2.2.2.2.1.1 (Nat.lt_succ_self K) H12.out.2.2.2.2.2.1.2
                have H15 := hid (And.intro hd3 (And.intro hk4 (And.intro hX4 (And.intro hoX4 (And.intro hkv4 hhv4)))))
                clear hd3 hk3 hk4 hX4 hoX4 hkv4 hhv4 e0 e1 x8 hcat hapm
                by_cases hz : r3.1 = 0
                · have hb3 : ((r3.1 : Int) != 0) = false := by rw [hz]; rfl
                  have Hz := hid hz
                  clear hz
                  go_wp2
                  go_roundw
                  case rel =>
                    have hlt := Hlt.out
                    refine ⟨j + 1, r3.2, vo3, by go_num, by omega, H15.out.1, H15.out.2.1, H15.out.2.2.1, H15.out.2.2.2.1, H15.out.2.2.2.2.1, H15.out.2.2.2.2.2, H13.out.2.1 Hz.out, H13.out.2.2 Hz.out, ?_⟩
                    have he := H12.out.2.2.2.2.2.2.1
                    rw [eachKid_on (by rw [H13.out.1]; exact Hz.out), H13.out.1] at he
                    exact he
                  case measure => have hlt := Hlt.out; simp [intOf]; omega
                · have hb3 : ((r3.1 : Int) != 0) = true := by rw [bne_iff_ne]; omega
                  have Hz := hid hz
                  clear hz
                  go_wp2_with fail
                  go_ret
                  have he := H12.out.2.2.2.2.2.2.1
                  rw [eachKid_stop (by rw [H13.out.1]; exact Hz.out), H13.out.1] at he
                  first | rw [← HRr.out, ← he] | rw [← he]
                  exact ⟨rfl, vo3, H15.out.1, H15.out.2.1⟩
            · have hltz : decide ((j : Int) < (ks.length : Int)) = false := by simp; omega
              have hr2 : r = (0, st) := by
                rw [← he, show j = ks.length by omega, List.drop_length]; rfl
              have H12 := hid (And.intro hd (And.intro hk hr2))
              clear hd hk hX hoX hkv hhv he hr2
              go_wp2_with fail
              go_ret
              have h := H12.out
              first | rw [← HRr.out, h.2.2] | rw [h.2.2]
              exact ⟨rfl, vo2, h.1, h.2.1⟩
end Go.Proofs.YthhjdkcnkdffcaaGreat

namespace Go.Proofs.YthhjdkcnkdffcaaGreat
set_option linter.unusedSimpArgs false
set_option linter.unusedVariables false
open Go.RowKit Go.Sort
/-- What a call of All brings about. -/
def AllEndR (w : World) (r : Nat × List Exp) (e : Ending) (w' : World) : Prop :=
  ∃ v, e = .returned (.tuple #[v, .int .i64 (r.1 : Int)]) ∧ ES w' v r.2 ∧ Below w.heap.size w w'
set_option maxHeartbeats 1000000 in
theorem ref_all (w : World) (p : Option Addr) (n cap : Nat) (l : List UInt8) (h : BS w (.slice p n cap) l) :
    Calls Tryz.prog 47 #[.slice p n cap] w (AllEndR w (allS l)) := by
  obtain rfl := h.len
  have hcp := h.cap
  by_cases hne : l = []
  · subst hne
    clear h
    go_enter Tryz.func47, Tryz.ntmps47
    go_wp2_with fail
    go_ret2
    exact ⟨_, rfl, by rw [show (allS []).2 = [] from byNames_nil]; exact ES.nil _, Below.refl _ _⟩
  · have hpos := List.length_pos_iff.2 hne
    have hd1 : ((l.length : Int) == 0) = false := by rw [beq_eq_false_iff_ne]; omega
    have hd2 : (l.length == 0) = false := by rw [beq_eq_false_iff_ne]; omega
    have hb : Below w.heap.size w (w.alloc (.cells #[.slice p l.length cap, .int .i64 0, .slice none 0 0] 143)) := (Below.refl _ _).alloc (Nat.le_refl _) _
    have hD : DR w (w.alloc (.cells #[.slice p l.length cap, .int .i64 0, .slice none 0 0] 143)) w.heap.size p cap l 0 [] (.slice none 0 0) :=
      ⟨heap_alloc_new w _, h.below hb, fun k hk => inBlk_lt h hk, World.ownsRow_nil _ _ _ _, hb, Nat.le_refl _⟩
    have hcall := ref_down w w.heap.size p cap l hcp.2.2 hne 257 _ 0 [] 0 [] [] _ (.slice none 0 0) hD (World.ownsRow_nil _ _ _ _) (Apart.nil _) (by simp) (by simp) (by simp) (by omega) (by simp) (by omega)
    obtain ⟨r, hr⟩ : ∃ r, r = downF l 257 0 [] [] ⟨0, []⟩ := ⟨_, rfl⟩
    rw [← hr] at hcall
    have H0 := hid (And.intro hcall (And.intro hr hne))
    clear h hb hD hcall hr hne
    go_enter Tryz.func47, Tryz.ntmps47
    go_wp2_with fail
    refine H0.out.1.mono ?_
    rintro e W3 ⟨rfl, vo3, hd3, hk3⟩
    obtain ⟨K, hK⟩ : ∃ K, K = w.heap.size := ⟨_, rfl⟩
    have hlow := hd3.low
    rw [← hK] at hd3 ⊢
    by_cases hz : r.1 = 0
    · have hS : allS l = (0, byNames r.2.out) ∧ NamesApart r.2.out := by
        have hne := H0.out.2.2
        have hr := H0.out.2.1
        have h1 := allT_apart l
        unfold allS
        unfold allT at h1 ⊢
        rw [if_neg hne, ← hr, if_neg (by omega)] at h1 ⊢
        exact ⟨rfl, h1⟩
      have hb3 : ((r.1 : Int) != 0) = false := by rw [hz]; rfl
      have hfew : r.2.out.length ≤ 4096 := by
        have := downF_few l 257 0 [] [] ⟨0, []⟩ (by simp)
        rw [← H0.out.2.1] at this
        exact this hz
      obtain ⟨c0, c1, c2, cf⟩ := hd3.cells
      obtain ⟨op, oc, ho⟩ := ownsRow_form hd3.own
      subst ho
      have hsort := ref_sorted 4096 W3 _ r.2.out (ES.of_owns hd3.own (by omega)) (by omega) (by omega)
      rw [sortedR_is hS.2 (by omega)] at hsort
      have H3 := hid (And.intro hlow (And.intro hS hsort))
      clear hd3 hk3 hS hsort hz hK hlow c0 c1
      go_wp2_with fail
      refine H3.out.2.2.mono ?_
      rintro e W4 ⟨v, rfl, hown, hb4⟩
      obtain ⟨vp, vc, hv⟩ := ownsRow_form hown
      subst hv
      have hl4 : (byNames r.2.out).length ≤ 4096 := by rw [(byNames_perm r.2.out).length_eq]; exact hfew
      have hes := ES.of_owns hown (by omega)
      have H4 := hid (And.intro hes (H3.out.1.trans (hb4.mono H3.out.1.size)))
      clear hown hb4 hes
      go_wp2_with fail
      go_ret2
      rw [H3.out.2.1.1]
      exact ⟨_, rfl, H4.out.1, H4.out.2⟩
    · have hS : allS l = (r.1, []) := by
        have hne := H0.out.2.2
        have hr := H0.out.2.1
        unfold allS
        unfold allT
        rw [if_neg hne, ← hr, if_pos hz]
        simp [byNames]
      have hb3 : ((r.1 : Int) != 0) = true := by rw [bne_iff_ne]; omega
      have H3 := hid (And.intro hlow hS)
      clear hd3 hk3 hS hz hK hlow
      go_wp2_with fail
      go_ret2
      rw [H3.out.2]
      exact ⟨_, rfl, ES.nil _, H3.out.1⟩
end Go.Proofs.YthhjdkcnkdffcaaGreat
