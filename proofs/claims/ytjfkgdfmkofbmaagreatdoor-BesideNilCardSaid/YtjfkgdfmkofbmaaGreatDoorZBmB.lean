/- Patches as pieces: the old bytes, the new ones. -/
import Derived.Test.YtjfkgdfmkofbmaaGreatDoorZBrB
import Derived.Test.YtjfkgdfmkofbmaaGreatDoorZStepB
import Derived.Test.YtjfkgdfmkofbmaaGreatDoorZBrA
import Derived.Test.YtjfkgdfmkofbmaaGreatDoorZBmA
namespace Go.Proofs.YtjfkgdfmkofbmaaGreatDoor
set_option linter.unusedSimpArgs false
set_option linter.unusedVariables false
open Go.RowKit

def oldP (x : PaV) : PzV := ⟨x.at_, 1, x.p1, x.c1, x.old⟩
def newP (x : PaV) : PzV := ⟨x.at_, 1, x.p2, x.c2, x.new⟩
def oldM (x : Gz) : Pz := ⟨x.at_, 1, x.old⟩
def newM (x : Gz) : Pz := ⟨x.at_, 1, x.new⟩
theorem old_m (L : List PaV) : (L.map oldP).map PzV.m = (L.map PaV.m).map oldM := by rw [List.map_map, List.map_map]; rfl
theorem new_m (L : List PaV) : (L.map newP).map PzV.m = (L.map PaV.m).map newM := by rw [List.map_map, List.map_map]; rfl

/-- Two rows of pieces that are made. -/
structure TwoR (w W : World) (vo vn : Value) (k : Nat) (xs ys : List Value) : Prop where
  bel : Below w.heap.size w W
  o : W.ownsRow w.heap.size 74 3 vo k xs
  n : W.ownsRow w.heap.size 74 3 vn k ys
  ne : ∀ j, vo.ownBlock = some j → vn.ownBlock ≠ some j
theorem bel_grew {w W W1 : World} {v v' : Value} {k : Nat} {xs : List Value} (hb : Below w.heap.size w W) (ho : W.ownsRow w.heap.size 74 3 v k xs) (hg : Grew W W1 v v') : Below w.heap.size w W1 :=
  ⟨hg.by_.os.trans hb.os, hg.by_.tape.trans hb.tape, hg.by_.output.trans hb.output, Nat.le_trans hb.size hg.size, fun j hj => (hg.block (Nat.lt_of_lt_of_le hj hb.size) (fun e => by have := (World.ownsRow.lt ho j e).1; omega)).trans (hb.block j hj)⟩
theorem lies_ne {W W' : World} {v v' u : Value} (hg : Grew W W' v v') (hu : ∀ j, u.ownBlock = some j → j < W.heap.size) (h : ∀ j, v.ownBlock = some j → u.ownBlock ≠ some j) : ∀ j, v'.ownBlock = some j → u.ownBlock ≠ some j := fun j hj e => by
  rcases hg.lies with e2 | ⟨q, e2, hq⟩
  · exact h j (e2 ▸ hj) e
  · rw [e2] at hj; cases hj; have := hu _ e; omega

set_option maxHeartbeats 4000000 in
set_option maxRecDepth 8000 in
theorem bd_patches (w : World) (v : Value) (L : List PaV) (h : PasAt w v L) (hat : ∀ x ∈ L, x.at_ < 2 ^ 64) (hlen : L.length ≤ 1000000) :
    Calls Tryz.prog 25 #[v] w fun e w' => ∃ vo vn, e = .returned (.tuple #[vo, vn]) ∧ Below w.heap.size w w' ∧ PzsAt w' vo (L.map oldP) ∧ PzsAt w' vn (L.map newP) := by
  obtain ⟨a, cap, rfl⟩ := RowsAt.form h.rows
  obtain ⟨N, hN⟩ : ∃ N, N = L.length := ⟨_, rfl⟩
  rw [← hN] at h hlen ⊢
  obtain ⟨ip, hip, hpz, hps, hpb⟩ := info_parts infoP1
  have HI := hid (And.intro hip (And.intro hpz (And.intro hps hpb)))
  have H := hid (And.intro h (And.intro hlen (And.intro hN hat)))
  clear h hlen hN hat hip hpz hps hpb
  go_enter Tryz.func25, Tryz.ntmps25
  go_wp2_with fail
  go_loopw [2, 3, 8] (fun vo vn vi wr => ∃ k : Nat, k ≤ N ∧ vi = .int .i64 (k : Int) ∧ TwoR w wr vo vn k ((L.take k).flatMap (fun x => (oldP x).cells)) ((L.take k).flatMap (fun x => (newP x).cells))) (fun _ _ vi _ => N - (intOf vi).toNat)
  case atStart => exact ⟨0, Nat.zero_le _, rfl, Below.refl _ _, World.ownsRow_nil _ _ _ _, World.ownsRow_nil _ _ _ _, (fun j hj => by cases hj)⟩
  case round =>
    obtain ⟨k, hk, rfl, ht⟩ := hrel
    obtain ⟨o1, o2, o3, rfl⟩ := own_form ht.o
    obtain ⟨n1, n2, n3, rfl⟩ := own_form ht.n
    by_cases hlt : k < N
    · obtain ⟨x, hx⟩ : ∃ x, L[k]? = some x := ⟨_, List.getElem?_eq_getElem (by rw [← H.out.2.2.1]; exact hlt)⟩
      obtain ⟨g, off, rfl, y0, y1, y2⟩ := (H.out.1.below ht.bel).cell hx
      have htk : ∀ f : PaV → List Value, (L.take (k + 1)).flatMap f = (L.take k).flatMap f ++ f x := fun f => by rw [List.take_add_one, hx]; simp
      obtain ⟨xa, xp1, xc1, xo, xp2, xc2, xn⟩ := x
      obtain ⟨l1, hl1⟩ : ∃ n, n = xo.length := ⟨_, rfl⟩
      obtain ⟨l2, hl2⟩ : ∃ n, n = xn.length := ⟨_, rfl⟩
      dsimp only [PaV.s1, PaV.s2] at y0 y1 y2
      rw [← hl1] at y1
      rw [← hl2] at y2
      have i1 : (0 : Int) ≤ (k : Int) := by omega
      have i2 : (k : Int) < (N : Int) := by omega
      have hltz : decide ((k : Int) < (N : Int)) = true := by rw [decide_eq_true_eq]; omega
      have hwk : IntKind.i64.wrap ((k : Int) + 1) = ((k + 1 : Nat) : Int) := (IntWalk.i64_in _ (by have := H.out.2.1; omega)).trans (by omega)
      have HX := hid (And.intro ht (And.intro htk (And.intro hl1 (And.intro hl2 hlt))))
      clear ht htk hl1 hl2 hlt hk hx
      go_upto_region 4 with fail
      obtain ⟨V, hV⟩ : ∃ V, V = wr.alloc (.cells #[.int .u64 (xa : Int), .slice xp1 l1 xc1, .slice xp2 l2 xc2] 94) := ⟨_, rfl⟩
      have bV : Below wr.heap.size wr V := by rw [hV]; exact (Below.refl _ _).alloc (Nat.le_refl _) _
      have rV : RowAt V wr.heap.size 94 #[.int .u64 (xa : Int), .slice xp1 l1 xc1, .slice xp2 l2 xc2] := by rw [hV]; exact heap_alloc_new wr _
      rw [← hV]
      have z0 : V.cell? ⟨wr.heap.size, 0, none⟩ = some (.int .u64 (xa : Int)) := rV.cell 0
      have z1 : V.cell? ⟨wr.heap.size, 1, none⟩ = some (.slice xp1 l1 xc1) := rV.cell 1
      have z2 : V.cell? ⟨wr.heap.size, 2, none⟩ = some (.slice xp2 l2 xc2) := rV.cell 2
      have HV := hid (And.intro bV rV)
      clear hV bV rV y0 y1 y2
      have HT := hid (And.intro (HX.out.1.bel.trans (HV.out.1.mono HX.out.1.bel.size)) (And.intro (ownsRow_below HX.out.1.o HV.out.1) (ownsRow_below HX.out.1.n HV.out.1)))
      go_wp2_with (at_builtin; refine wpList_append_grew _ rfl _ _ _ _ rfl w.heap.size 74 ip _ 3 40 Tryz.underlying24 HI.out.1 HI.out.2.1 HI.out.2.2.1 HI.out.2.2.2 rfl (.slice o1 o2 o3) k ((L.take k).flatMap (fun x => (oldP x).cells)) rfl (ownsRow_below HT.out.2.1 ((Below.refl _ _).alloc (Nat.le_refl _) _)) _ 1 [.int .u64 (xa : Int), .int .i64 1, .slice xp1 l1 xc1] rfl (Src.laid _ Tryz.underlying24 [.int .u64 (xa : Int), .int .i64 1, .slice xp1 l1 xc1] 1 rfl (by simp [Value.oneCell']) (0, 0) (by simp)) (Nat.le_trans (show k + 1 ≤ 1000001 by have := H.out.2.1; have := HX.out.2.2.2.2; omega) (by decide)) (by have := H.out.2.1; have := HX.out.2.2.2.2; omega) (by have := HT.out.1.size; simp; omega) ?_)
      intro v5 W5 ho5 hg5
      have hg5 := Grew.under ((Below.refl _ _).alloc (Nat.le_refl _) _ : Below V.heap.size V _) hg5
      obtain ⟨q1, q2, q3, rfl⟩ := own_form ho5
      have ow := World.ownsRow.lt HX.out.1.o
      have nw := World.ownsRow.lt HX.out.1.n
      have rV5 : RowAt W5 wr.heap.size 94 #[.int .u64 (xa : Int), .slice xp1 l1 xc1, .slice xp2 l2 xc2] := (hg5.block HV.out.2.lt (fun e => by have := (ow _ e).2; omega)).trans HV.out.2
      have on5 : W5.ownsRow w.heap.size 74 3 (.slice n1 n2 n3) k ((L.take k).flatMap (fun x => (newP x).cells)) := owns_of_block HT.out.2.2 (fun j hj => hg5.block (World.ownsRow.lt HT.out.2.2 j hj).2 (fun e => HX.out.1.ne j e hj))
      have bl5 := bel_grew HT.out.1 HT.out.2.1 hg5
      have ne5 := lies_ne (u := .slice n1 n2 n3) hg5 (fun j hj => (World.ownsRow.lt HT.out.2.2 j hj).2) HX.out.1.ne
      have z0 : W5.cell? ⟨wr.heap.size, 0, none⟩ = some (.int .u64 (xa : Int)) := rV5.cell 0
      have z2 : W5.cell? ⟨wr.heap.size, 2, none⟩ = some (.slice xp2 l2 xc2) := rV5.cell 2
      have H5 := hid (And.intro ho5 (And.intro on5 (And.intro bl5 ne5)))
      clear ho5 hg5 ow nw rV5 on5 bl5 ne5 z1
      go_wp2_with (at_builtin; refine wpList_append_grew _ rfl _ _ _ _ rfl w.heap.size 74 ip _ 3 40 Tryz.underlying24 HI.out.1 HI.out.2.1 HI.out.2.2.1 HI.out.2.2.2 rfl (.slice n1 n2 n3) k ((L.take k).flatMap (fun x => (newP x).cells)) rfl (ownsRow_below H5.out.2.1 ((Below.refl _ _).alloc (Nat.le_refl _) _)) _ 1 [.int .u64 (xa : Int), .int .i64 1, .slice xp2 l2 xc2] rfl (Src.laid _ Tryz.underlying24 [.int .u64 (xa : Int), .int .i64 1, .slice xp2 l2 xc2] 1 rfl (by simp [Value.oneCell']) (0, 0) (by simp)) (Nat.le_trans (show k + 1 ≤ 1000001 by have := H.out.2.1; have := HX.out.2.2.2.2; omega) (by decide)) (by have := H.out.2.1; have := HX.out.2.2.2.2; omega) (by have := H5.out.2.2.1.size; simp; omega) ?_)
      intro v6 W6 ho6 hg6
      have hg6 := Grew.under ((Below.refl _ _).alloc (Nat.le_refl _) _ : Below W5.heap.size W5 _) hg6
      obtain ⟨r1, r2, r3, rfl⟩ := own_form ho6
      have oo6 : W6.ownsRow w.heap.size 74 3 (.slice q1 q2 q3) (k + 1) ((L.take k).flatMap (fun x => (oldP x).cells) ++ [.int .u64 (xa : Int), .int .i64 1, .slice xp1 l1 xc1]) := owns_of_block H5.out.1 (fun j hj => hg6.block (World.ownsRow.lt H5.out.1 j hj).2 (fun e => H5.out.2.2.2 j hj e))
      have bl6 := bel_grew H5.out.2.2.1 H5.out.2.1 hg6
      have ne6 := lies_ne (u := .slice q1 q2 q3) hg6 (fun j hj => (World.ownsRow.lt H5.out.1 j hj).2) (fun j hj e => H5.out.2.2.2 j e hj)
      have H6 := hid (And.intro oo6 (And.intro ho6 (And.intro bl6 ne6)))
      clear ho6 hg6 oo6 bl6 ne6 z0 z2
      go_wp2_with fail
      refine ⟨⟨k + 1, by have := HX.out.2.2.2.2; omega, rfl, H6.out.2.2.1, ?_, ?_, fun j hj e => H6.out.2.2.2 j e hj⟩, by simp only [intOf, Int.toNat_natCast]; have := HX.out.2.2.2.2; omega⟩
      · rw [HX.out.2.1]
        have := H6.out.1
        rw [HX.out.2.2.1] at this
        exact this
      · rw [HX.out.2.1]
        have := H6.out.2.1
        rw [HX.out.2.2.2.1] at this
        exact this
    · have hkN : k = N := by omega
      have hltz : decide ((k : Int) < (N : Int)) = false := by rw [decide_eq_false_iff_not]; omega
      have hltn : decide (k < N) = false := by rw [decide_eq_false_iff_not]; omega
      have hfl : ∀ f : PaV → PzV, (L.take k).flatMap (fun x => (f x).cells) = (L.map f).flatMap PzV.cells := fun f => by rw [hkN, H.out.2.2.1, List.take_length, List.flatMap_map]
      have hlk : ∀ f : PaV → PzV, (L.map f).length = k := fun f => by rw [List.length_map, hkN, H.out.2.2.1]
      have ho := ht.o
      have hn := ht.n
      rw [hfl oldP, ← hlk oldP] at ho
      rw [hfl newP, ← hlk newP] at hn
      have hr := H.out.1.below ht.bel
      have po : PzsAt wr (.slice o1 o2 o3) (L.map oldP) := ⟨own3_reads pzLen ho, fun x hx => by obtain ⟨y, hy, rfl⟩ := List.mem_map.1 hx; exact hr.b1 y hy, fun x hx => by obtain ⟨y, hy, rfl⟩ := List.mem_map.1 hx; exact H.out.2.2.2 y hy⟩
      have pn : PzsAt wr (.slice n1 n2 n3) (L.map newP) := ⟨own3_reads pzLen hn, fun x hx => by obtain ⟨y, hy, rfl⟩ := List.mem_map.1 hx; exact hr.b2 y hy, fun x hx => by obtain ⟨y, hy, rfl⟩ := List.mem_map.1 hx; exact H.out.2.2.2 y hy⟩
      have HX := hid (And.intro ht.bel (And.intro po pn))
      clear ht hkN hfl hlk ho hn hr po pn hlt hk
      go_wp2_with fail
      refine bodyPost_ret (v := .tuple #[.slice o1 o2 o3, .slice n1 n2 n3]) (by simp [results, Tryz.results25, go_sem]) rfl ?_
      exact ⟨_, _, rfl, HX.out.1, HX.out.2.1, HX.out.2.2⟩
end Go.Proofs.YtjfkgdfmkofbmaaGreatDoor

namespace Go.Proofs.YtjfkgdfmkofbmaaGreatDoor
set_option linter.unusedSimpArgs false
set_option linter.unusedVariables false
open Go.RowKit

def idxT {α : Type} (test : α → Bool) (l : List α) : Int := if l.findIdx test < l.length then (l.findIdx test : Int) else -1
theorem idxT_lt {α : Type} {test : α → Bool} {l : List α} (h : l.findIdx test < l.length) : idxT test l = l.findIdx test := if_pos h
theorem idxT_no {α : Type} {test : α → Bool} {l : List α} (h : ¬ l.findIdx test < l.length) : idxT test l = -1 := if_neg h
theorem idxT_any {α : Type} (test : α → Bool) (l : List α) : decide ((0 : Int) ≤ idxT test l) = l.any test := by
  by_cases h : l.findIdx test < l.length
  · rw [idxT_lt h, decide_eq_true (by omega)]
    obtain ⟨x, hx, h2⟩ := List.findIdx_lt_length.1 h
    exact (List.any_eq_true.2 ⟨x, hx, h2⟩).symm
  · rw [idxT_no h]
    cases ha : l.any test with
    | false => rfl
    | true =>
      obtain ⟨x, hx, h2⟩ := List.any_eq_true.1 ha
      exact absurd (List.findIdx_lt_length.2 ⟨x, hx, h2⟩) h
theorem idx_here {α : Type} {test : α → Bool} {l : List α} {k : Nat} {s : α} (hs : l[k]? = some s) (hk : k ≤ l.findIdx test) (ht : test s = true) : l.findIdx test = k := by
  obtain ⟨hlt, rfl⟩ := List.getElem?_eq_some_iff.1 hs
  rcases Nat.lt_or_ge k (l.findIdx test) with h | h
  · have := List.not_of_lt_findIdx h
    rw [ht] at this
    simp at this
  · omega
theorem idx_more {α : Type} {test : α → Bool} {l : List α} {k : Nat} {s : α} (hs : l[k]? = some s) (hk : k ≤ l.findIdx test) (ht : test s = false) : k < l.findIdx test := by
  obtain ⟨hlt, rfl⟩ := List.getElem?_eq_some_iff.1 hs
  rcases Nat.lt_or_eq_of_le hk with h | h
  · exact h
  · have h2 := List.findIdx_getElem (p := test) (xs := l) (w := by rw [← h]; exact hlt)
    have h3 : l[l.findIdx test]'(by rw [← h]; exact hlt) = l[k] := by congr 1; exact h.symm
    rw [h3, ht] at h2
    cases h2

def longG (x : PaV) : Bool := x.old.length != x.new.length
set_option maxHeartbeats 400000 in
theorem bd_long (w : World) (a : Value) (p1 p2 : Option Addr) (n1 c1 n2 c2 : Nat) (ha : ∃ z : Int, a = .int .u64 z) : Calls Tryz.prog 40 #[.agg #[a, .slice p1 n1 c1, .slice p2 n2 c2]] w fun e w' => e = .returned (.bool (n1 != n2)) ∧ Below w.heap.size w w' := by
  obtain ⟨z, rfl⟩ := ha
  have H0 := hid ((Below.refl w.heap.size w).alloc (Nat.le_refl _) (.cells #[.int .u64 z, .slice p1 n1 c1, .slice p2 n2 c2] 94))
  have hq : ((n1 : Int) != (n2 : Int)) = (n1 != n2) := by
    by_cases h : n1 = n2
    · subst h; simp
    · have h2 : (n1 : Int) ≠ (n2 : Int) := by omega
      rw [bne_iff_ne.2 h, bne_iff_ne.2 h2]
  go_enter Tryz.func40, Tryz.ntmps40
  go_wp2_with fail
  refine bodyPost_ret (v := .bool (n1 != n2)) (by simp [results, Tryz.results40, go_sem]) rfl ?_
  exact ⟨rfl, H0.out⟩

set_option maxHeartbeats 400000 in
theorem index_pas (w : World) (p : Option Addr) (cap : Nat) (l : List PaV) (hv : PasAt w (.slice p l.length cap) l) :
    Calls Tryz.prog 54 #[.slice p l.length cap, .func (.func 40) #[] #[]] w fun e w' => e = .returned (.int .i64 (idxT longG l)) ∧ Below w.heap.size w w' := by
  have hll : l.length ≤ 9223372036854775807 := hv.rows.len
  have hpl : l.findIdx longG ≤ l.length := List.findIdx_le_length
  have H := hid hv
  clear hv
  go_enter Tryz.func54, Tryz.ntmps54
  go_wp2_with fail
  go_loopw [8] (fun i wr => ∃ k : Nat, k ≤ l.findIdx longG ∧ i = .int .i64 (k : Int) ∧ Below w.heap.size w wr) (fun i _ => l.length - (intOf i).toNat)
  case atStart => exact ⟨0, Nat.zero_le _, rfl, Below.refl _ _⟩
  case round =>
    obtain ⟨k, hk, rfl, hb⟩ := hrel
    have hsz := hb.size
    by_cases hlt : k < l.length
    · obtain ⟨s, hs⟩ : ∃ s, l[k]? = some s := ⟨_, List.getElem?_eq_getElem hlt⟩
      obtain ⟨g, off, rfl, x0, x1, x2⟩ := (H.out.below hb).cell hs
      obtain ⟨bq, hbq⟩ : ∃ bq, bq = longG s := ⟨_, rfl⟩
      obtain ⟨n1, hn1⟩ : ∃ n, n = s.old.length := ⟨_, rfl⟩
      obtain ⟨n2, hn2⟩ : ∃ n, n = s.new.length := ⟨_, rfl⟩
      have hbq2 : (n1 != n2) = bq := by rw [hbq, hn1, hn2]; rfl
      dsimp only [PaV.s1, PaV.s2] at x1 x2
      rw [← hn1] at x1
      rw [← hn2] at x2
      have HC := hid (fun w => by have := bd_long w (.int .u64 (s.at_ : Int)) s.p1 s.p2 n1 s.c1 n2 s.c2 ⟨_, rfl⟩; rwa [hbq2] at this)
      have Hs := hid (And.intro hb (And.intro hs (And.intro hk hbq)))
      clear hb hs hbq hk hn1 hn2 hbq2
      go_wp2_with fail
      refine (HC.out _).mono ?_
      rintro e w1 ⟨rfl, hb1⟩
      have Hb1 := hid hb1
      clear hb1
      cases bq with
      | true =>
        go_wp2
        go_ret
        have hkp := idx_here Hs.out.2.1 Hs.out.2.2.1 Hs.out.2.2.2.symm
        refine ⟨?_, Hs.out.1.trans (Hb1.out.mono hsz)⟩
        rw [idxT_lt (by omega), hkp]
        try rfl
      | false =>
        have hkp := idx_more Hs.out.2.1 Hs.out.2.2.1 Hs.out.2.2.2.symm
        go_wp2
        exact ⟨⟨k + 1, by omega, by go_num, Hs.out.1.trans (Hb1.out.mono hsz)⟩, by simp [intOf]; omega⟩
    · have hkp : l.findIdx longG = k := by omega
      have Hp := hid (And.intro hkp hb)
      clear hkp hb
      go_wp2
      go_ret
      rw [idxT_no (by rw [Hp.out.1]; exact hlt)]
      exact ⟨rfl, Hp.out.2⟩

set_option maxHeartbeats 400000 in
theorem any_pas (w : World) (p : Option Addr) (cap : Nat) (l : List PaV) (hv : PasAt w (.slice p l.length cap) l) :
    Calls Tryz.prog 41 #[.slice p l.length cap, .func (.func 40) #[] #[]] w fun e w' => e = .returned (.bool (l.any longG)) ∧ Below w.heap.size w w' := by
  have hI := index_pas w p cap l hv
  rw [← idxT_any]
  obtain ⟨z, hz⟩ : ∃ z, z = idxT longG l := ⟨_, rfl⟩
  rw [← hz] at hI ⊢
  have HI := hid hI
  clear hI hz hv
  go_enter Tryz.func41, Tryz.ntmps41
  go_wp2_with fail
  refine (HI.out).mono ?_
  rintro e w1 ⟨rfl, hb1⟩
  have H := hid hb1
  clear hb1
  go_wp2_with fail
  go_ret
  exact ⟨rfl, H.out⟩
end Go.Proofs.YtjfkgdfmkofbmaaGreatDoor

namespace Go.Proofs.YtjfkgdfmkofbmaaGreatDoor
set_option linter.unusedSimpArgs false
set_option linter.unusedVariables false
open Go.RowKit

theorem bd_equal (w : World) (p1 p2 : Option Addr) (n1 c1 n2 c2 : Nat) (a b : List UInt8) (h1 : BS w (.slice p1 n1 c1) a) (h2 : BS w (.slice p2 n2 c2) b) :
    Calls Tryz.prog 24 #[.slice p1 n1 c1, .slice p2 n2 c2] w fun e w' => e = .returned (.bool (a == b)) ∧ Below w.heap.size w w' := by
  have t1 := run_toString (P := Tryz.prog) (dst := 9) (w := w) _ _ _ un_bsQ un_u8Q un_strQ h1
  have t2 := run_toString (P := Tryz.prog) (dst := 9) (w := w) _ _ _ un_bsQ un_u8Q un_strQ h2
  clear h1 h2
  go_enter Tryz.func24, Tryz.ntmps24
  go_wp2_with fail
  refine bodyPost_ret (v := .bool (a == b)) (by simp [results, Tryz.results24, go_sem]) rfl ?_
  exact ⟨rfl, Below.refl _ _⟩
end Go.Proofs.YtjfkgdfmkofbmaaGreatDoor

namespace Go.Proofs.YtjfkgdfmkofbmaaGreatDoor
set_option linter.unusedSimpArgs false
set_option linter.unusedVariables false
open Go.RowKit

def longM (x : Gz) : Bool := x.old.length != x.new.length
/-- May rows be? -/
def mayRowsZ (r : Rz) : Bool :=
  mayZ r.lost && mayZ r.gained && mayZ (r.patches.map oldM) && mayZ (r.patches.map newM) && !r.patches.any longM && !meetZ (r.patches.map oldM) r.lost && !meetZ (r.patches.map oldM) r.gained
theorem any_long (L : List PaV) : L.any longG = (L.map PaV.m).any longM := by rw [List.any_map]; rfl

set_option maxHeartbeats 4000000 in
set_option maxRecDepth 8000 in
theorem bd_mayRows (w : World) (vl vg vp : Value) (Ll Lg : List PzV) (Lp : List PaV) (hl : PzsAt w vl Ll) (hg : PzsAt w vg Lg) (hp : PasAt w vp Lp) (hat : ∀ x ∈ Lp, x.at_ < 2 ^ 64) (hnl : Ll.length ≤ 20000) (hng : Lg.length ≤ 20000) (hnp : Lp.length ≤ 20000) :
    Calls Tryz.prog 22 #[.agg #[vl, vg, vp]] w fun e w' => e = .returned (.bool (mayRowsZ (rzV Ll Lg Lp))) ∧ Below w.heap.size w w' := by
  have hyL := hid (fun W (hb : Below w.heap.size w W) => bd_may W _ Ll (hl.below hb))
  have hyG := hid (fun W (hb : Below w.heap.size w W) => bd_may W _ Lg (hg.below hb))
  obtain ⟨p1, p2, rfl⟩ := RowsAt.form hl.rows
  obtain ⟨p3, p4, rfl⟩ := RowsAt.form hg.rows
  obtain ⟨p5, p6, rfl⟩ := RowsAt.form hp.rows
  have hpt := hid (fun W (hb : Below w.heap.size w W) => bd_patches W _ Lp (hp.below hb) hat (by omega))
  have hany := hid (fun W (hb : Below w.heap.size w W) => any_pas W p5 p6 Lp (hp.below hb))
  obtain ⟨ml, hml⟩ : ∃ b, b = mayZ (Ll.map PzV.m) := ⟨_, rfl⟩
  obtain ⟨mg, hmg⟩ : ∃ b, b = mayZ (Lg.map PzV.m) := ⟨_, rfl⟩
  obtain ⟨mo, hmo⟩ : ∃ b, b = mayZ ((Lp.map PaV.m).map oldM) := ⟨_, rfl⟩
  obtain ⟨mn, hmn⟩ : ∃ b, b = mayZ ((Lp.map PaV.m).map newM) := ⟨_, rfl⟩
  obtain ⟨ma, hma⟩ : ∃ b, b = (Lp.map PaV.m).any longM := ⟨_, rfl⟩
  obtain ⟨m1, hm1⟩ : ∃ b, b = meetZ ((Lp.map PaV.m).map oldM) (Ll.map PzV.m) := ⟨_, rfl⟩
  obtain ⟨m2, hm2⟩ : ∃ b, b = meetZ ((Lp.map PaV.m).map oldM) (Lg.map PzV.m) := ⟨_, rfl⟩
  have hR : mayRowsZ (rzV Ll Lg Lp) = (ml && mg && mo && mn && !ma && !m1 && !m2) := by rw [hml, hmg, hmo, hmn, hma, hm1, hm2]; rfl
  rw [hR]
  rw [← hml] at hyL
  rw [← hmg] at hyG
  rw [any_long, ← hma] at hany
  obtain ⟨nl, ehl⟩ : ∃ n, n = Ll.length := ⟨_, rfl⟩
  obtain ⟨ng, ehg⟩ : ∃ n, n = Lg.length := ⟨_, rfl⟩
  obtain ⟨np, ehp⟩ : ∃ n, n = Lp.length := ⟨_, rfl⟩
  rw [← ehl] at hyL hl ⊢
  rw [← ehg] at hyG hg ⊢
  rw [← ehp] at hpt hany hp ⊢
  have H := hid (And.intro hl (And.intro hg (And.intro hp (And.intro hnl (And.intro hng hnp)))))
  have HM := hid (And.intro hml (And.intro hmg (And.intro hmo (And.intro hmn (And.intro hma (And.intro hm1 hm2))))))
  clear hl hg hp hnl hng hnp hat hml hmg hmo hmn hma hm1 hm2 hR ehl ehg ehp
  go_enter Tryz.func22, Tryz.ntmps22
  go_upto_region 1 with fail
  obtain ⟨V, hV⟩ : ∃ V, V = w.alloc (.cells #[.slice p1 nl p2, .slice p3 ng p4, .slice p5 np p6] 27) := ⟨_, rfl⟩
  have bV : Below w.heap.size w V := by rw [hV]; exact (Below.refl _ _).alloc (Nat.le_refl _) _
  have rV : RowAt V w.heap.size 27 #[.slice p1 nl p2, .slice p3 ng p4, .slice p5 np p6] := by rw [hV]; exact heap_alloc_new w _
  rw [← hV]
  clear hV
  have z2 : V.cell? ⟨w.heap.size, 2, none⟩ = some (.slice p5 np p6) := rV.cell 2
  have HV := hid (And.intro bV rV)
  clear bV rV
  go_wp2_with fail
  refine (hpt.out V HV.out.1).mono ?_
  rintro e w1 ⟨vo, vn, rfl, b1, ho, hn⟩
  obtain ⟨o1, o2, e1⟩ := RowsAt.form ho.rows
  obtain ⟨o3, o4, e2⟩ := RowsAt.form hn.rows
  obtain ⟨no, eno⟩ : ∃ n, n = (Lp.map oldP).length := ⟨_, rfl⟩
  obtain ⟨nn, enn⟩ : ∃ n, n = (Lp.map newP).length := ⟨_, rfl⟩
  rw [← eno] at e1
  rw [← enn] at e2
  subst e1 e2
  have bw1 := HV.out.1.trans (b1.mono HV.out.1.size)
  have r1 := RowAt.below HV.out.2 b1
  have H1 := hid (And.intro bw1 (And.intro r1 (And.intro ho hn)))
  clear b1 ho hn eno enn bw1 r1 z2
  have hyO := hid (fun W (hb : Below w1.heap.size w1 W) => bd_may W _ (Lp.map oldP) (H1.out.2.2.1.below hb))
  have hyN := hid (fun W (hb : Below w1.heap.size w1 W) => bd_may W _ (Lp.map newP) (H1.out.2.2.2.below hb))
  rw [old_m, ← HM.out.2.2.1] at hyO
  rw [new_m, ← HM.out.2.2.2.1] at hyN
  have hM1 := hid (fun W (hb : Below w1.heap.size w1 W) (e1 : mo = true) (e2 : ml = true) => bd_meet W _ _ (Lp.map oldP) Ll (H1.out.2.2.1.below hb) (H.out.1.below (H1.out.1.trans (hb.mono H1.out.1.size))) (by rw [List.length_map]; exact H.out.2.2.2.2.2) H.out.2.2.2.1 (by rw [old_m, ← HM.out.2.2.1]; exact e1) (by rw [← HM.out.1]; exact e2))
  have hM2 := hid (fun W (hb : Below w1.heap.size w1 W) (e1 : mo = true) (e2 : mg = true) => bd_meet W _ _ (Lp.map oldP) Lg (H1.out.2.2.1.below hb) (H.out.2.1.below (H1.out.1.trans (hb.mono H1.out.1.size))) (by rw [List.length_map]; exact H.out.2.2.2.2.2) H.out.2.2.2.2.1 (by rw [old_m, ← HM.out.2.2.1]; exact e1) (by rw [← HM.out.2.1]; exact e2))
  rw [old_m, ← HM.out.2.2.2.2.2.1] at hM1
  rw [old_m, ← HM.out.2.2.2.2.2.2] at hM2
  have B1 := hid (And.intro H1.out.1 (Below.refl w1.heap.size w1))
  have r1 := RowAt.below H1.out.2.1 B1.out.2
  have y0 : w1.cell? ⟨w.heap.size, 0, none⟩ = some (.slice p1 nl p2) := r1.cell 0
  have y1 : w1.cell? ⟨w.heap.size, 1, none⟩ = some (.slice p3 ng p4) := r1.cell 1
  have y2 : w1.cell? ⟨w.heap.size, 2, none⟩ = some (.slice p5 np p6) := r1.cell 2
  clear r1
  go_wp2_with fail
  refine (hyL.out w1 B1.out.1).mono ?_
  rintro e w2 ⟨rfl, b2⟩
  have B2 := hid (And.intro (B1.out.1.trans (b2.mono B1.out.1.size)) (B1.out.2.trans (b2.mono B1.out.2.size)))
  clear b2 y0 y1 y2
  cases ml with
  | false =>
    go_wp2_with fail
    refine bodyPost_ret (v := .bool false) (by simp [results, Tryz.results22, go_sem]) rfl ?_
    exact ⟨by simp, B2.out.1⟩
  | true =>
  have r2 := RowAt.below H1.out.2.1 B2.out.2
  have y0 : w2.cell? ⟨w.heap.size, 0, none⟩ = some (.slice p1 nl p2) := r2.cell 0
  have y1 : w2.cell? ⟨w.heap.size, 1, none⟩ = some (.slice p3 ng p4) := r2.cell 1
  have y2 : w2.cell? ⟨w.heap.size, 2, none⟩ = some (.slice p5 np p6) := r2.cell 2
  clear r2
  go_wp2_with fail
  refine (hyG.out w2 B2.out.1).mono ?_
  rintro e w3 ⟨rfl, b3⟩
  have B3 := hid (And.intro (B2.out.1.trans (b3.mono B2.out.1.size)) (B2.out.2.trans (b3.mono B2.out.2.size)))
  clear b3 y0 y1 y2
  cases mg with
  | false =>
    go_wp2_with fail
    refine bodyPost_ret (v := .bool false) (by simp [results, Tryz.results22, go_sem]) rfl ?_
    exact ⟨by simp, B3.out.1⟩
  | true =>
  have r3 := RowAt.below H1.out.2.1 B3.out.2
  have y0 : w3.cell? ⟨w.heap.size, 0, none⟩ = some (.slice p1 nl p2) := r3.cell 0
  have y1 : w3.cell? ⟨w.heap.size, 1, none⟩ = some (.slice p3 ng p4) := r3.cell 1
  have y2 : w3.cell? ⟨w.heap.size, 2, none⟩ = some (.slice p5 np p6) := r3.cell 2
  clear r3
  go_wp2_with fail
  refine (hyO.out w3 B3.out.2).mono ?_
  rintro e w4 ⟨rfl, b4⟩
  have B4 := hid (And.intro (B3.out.1.trans (b4.mono B3.out.1.size)) (B3.out.2.trans (b4.mono B3.out.2.size)))
  clear b4 y0 y1 y2
  cases mo with
  | false =>
    go_wp2_with fail
    refine bodyPost_ret (v := .bool false) (by simp [results, Tryz.results22, go_sem]) rfl ?_
    exact ⟨by simp, B4.out.1⟩
  | true =>
  have r4 := RowAt.below H1.out.2.1 B4.out.2
  have y0 : w4.cell? ⟨w.heap.size, 0, none⟩ = some (.slice p1 nl p2) := r4.cell 0
  have y1 : w4.cell? ⟨w.heap.size, 1, none⟩ = some (.slice p3 ng p4) := r4.cell 1
  have y2 : w4.cell? ⟨w.heap.size, 2, none⟩ = some (.slice p5 np p6) := r4.cell 2
  clear r4
  go_wp2_with fail
  refine (hyN.out w4 B4.out.2).mono ?_
  rintro e w5 ⟨rfl, b5⟩
  have B5 := hid (And.intro (B4.out.1.trans (b5.mono B4.out.1.size)) (B4.out.2.trans (b5.mono B4.out.2.size)))
  clear b5 y0 y1 y2
  cases mn with
  | false =>
    go_wp2_with fail
    refine bodyPost_ret (v := .bool false) (by simp [results, Tryz.results22, go_sem]) rfl ?_
    exact ⟨by simp, B5.out.1⟩
  | true =>
  have r5 := RowAt.below H1.out.2.1 B5.out.2
  have y0 : w5.cell? ⟨w.heap.size, 0, none⟩ = some (.slice p1 nl p2) := r5.cell 0
  have y1 : w5.cell? ⟨w.heap.size, 1, none⟩ = some (.slice p3 ng p4) := r5.cell 1
  have y2 : w5.cell? ⟨w.heap.size, 2, none⟩ = some (.slice p5 np p6) := r5.cell 2
  clear r5
  go_wp2_with fail
  refine (hany.out w5 B5.out.1).mono ?_
  rintro e w6 ⟨rfl, b6⟩
  have B6 := hid (And.intro (B5.out.1.trans (b6.mono B5.out.1.size)) (B5.out.2.trans (b6.mono B5.out.2.size)))
  clear b6 y0 y1 y2
  cases ma with
  | true =>
    go_wp2_with fail
    refine bodyPost_ret (v := .bool false) (by simp [results, Tryz.results22, go_sem]) rfl ?_
    exact ⟨by simp, B6.out.1⟩
  | false =>
  have r6 := RowAt.below H1.out.2.1 B6.out.2
  have y0 : w6.cell? ⟨w.heap.size, 0, none⟩ = some (.slice p1 nl p2) := r6.cell 0
  have y1 : w6.cell? ⟨w.heap.size, 1, none⟩ = some (.slice p3 ng p4) := r6.cell 1
  have y2 : w6.cell? ⟨w.heap.size, 2, none⟩ = some (.slice p5 np p6) := r6.cell 2
  clear r6
  go_wp2_with fail
  refine (hM1.out w6 B6.out.2 (by first | trivial | rfl) (by first | trivial | rfl)).mono ?_
  rintro e w7 ⟨rfl, b7⟩
  have B7 := hid (And.intro (B6.out.1.trans (b7.mono B6.out.1.size)) (B6.out.2.trans (b7.mono B6.out.2.size)))
  clear b7 y0 y1 y2
  cases m1 with
  | true =>
    go_wp2_with fail
    refine bodyPost_ret (v := .bool false) (by simp [results, Tryz.results22, go_sem]) rfl ?_
    exact ⟨by simp, B7.out.1⟩
  | false =>
  have r7 := RowAt.below H1.out.2.1 B7.out.2
  have y0 : w7.cell? ⟨w.heap.size, 0, none⟩ = some (.slice p1 nl p2) := r7.cell 0
  have y1 : w7.cell? ⟨w.heap.size, 1, none⟩ = some (.slice p3 ng p4) := r7.cell 1
  have y2 : w7.cell? ⟨w.heap.size, 2, none⟩ = some (.slice p5 np p6) := r7.cell 2
  clear r7
  go_wp2_with fail
  refine (hM2.out w7 B7.out.2 (by first | trivial | rfl) (by first | trivial | rfl)).mono ?_
  rintro e w8 ⟨rfl, b8⟩
  have B8 := hid (And.intro (B7.out.1.trans (b8.mono B7.out.1.size)) (B7.out.2.trans (b8.mono B7.out.2.size)))
  clear b8 y0 y1 y2
  go_wp2_with fail
  refine bodyPost_ret (v := .bool (!m2)) (by simp [results, Tryz.results22, go_sem]) rfl ?_
  exact ⟨by simp, B8.out.1⟩
end Go.Proofs.YtjfkgdfmkofbmaaGreatDoor
