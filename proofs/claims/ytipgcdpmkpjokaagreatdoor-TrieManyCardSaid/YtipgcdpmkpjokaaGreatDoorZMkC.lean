/- A knot's bytes: knot.bytes. -/
import Derived.Test.YtipgcdpmkpjokaaGreatDoorZMkB
namespace Go.Proofs.YtipgcdpmkpjokaaGreatDoor
set_option linter.unusedSimpArgs false
set_option linter.unusedVariables false
open Go.RowKit

/-- A slice that reads as children: edges, numbers. -/
def KS (w : World) (v : Value) (l : List (List UInt8 × Nat)) : Prop :=
  ∃ (p : Option Addr) (cap : Nat), v = .slice p l.length cap ∧ l.length ≤ cap ∧ (cap ≤ maxLen ∧ l.length ≤ 140737488355328) ∧
    (l ≠ [] → ∃ b off, p = some ⟨b, off, none⟩ ∧ ∀ i r, l[i]? = some r → w.cell? ⟨b, off + i * 2, none⟩ = some (.string (mkS r.1)) ∧ w.cell? ⟨b, off + i * 2 + 1, none⟩ = some (.int .i64 (r.2 : Int)))

theorem KS.below {w w' : World} {v : Value} {l : List (List UInt8 × Nat)} (h : KS w v l) (hb : Below w.heap.size w w') : KS w' v l := by
  obtain ⟨p, cap, hv, h1, h2, h3⟩ := h
  refine ⟨p, cap, hv, h1, h2, fun hne => ?_⟩
  obtain ⟨b, off, hp, hc⟩ := h3 hne
  refine ⟨b, off, hp, fun i r hr => ?_⟩
  obtain ⟨a1, a2⟩ := hc i r hr
  rw [hb.cell (World.block_lt_of_cell? w _ a1), hb.cell (World.block_lt_of_cell? w _ a2)]
  exact ⟨a1, a2⟩

theorem KS.form {w : World} {v : Value} {l : List (List UInt8 × Nat)} (h : KS w v l) : ∃ p cap, v = .slice p l.length cap := by
  obtain ⟨p, cap, hv, -⟩ := h; exact ⟨p, cap, hv⟩
theorem KS.len {w : World} {v : Value} {l : List (List UInt8 × Nat)} (h : KS w v l) : l.length ≤ 140737488355328 := by
  obtain ⟨p, cap, hv, h1, h2, -⟩ := h; exact h2.2

theorem KS.at {w : World} {p : Option Addr} {n cap : Nat} {l : List (List UInt8 × Nat)} (h : KS w (.slice p n cap) l) {i : Nat} {r : List UInt8 × Nat} (hr : l[i]? = some r) :
    ∃ b off, p = some ⟨b, off, none⟩ ∧ w.cell? ⟨b, off + i * 2, none⟩ = some (.string (mkS r.1)) ∧ w.cell? ⟨b, off + i * 2 + 1, none⟩ = some (.int .i64 (r.2 : Int)) := by
  obtain ⟨p', cap', hv, h1, h2, h3⟩ := h
  cases hv
  obtain ⟨b, off, hp, hc⟩ := h3 (by intro e; subst e; simp at hr)
  exact ⟨b, off, hp, hc i r hr⟩

/-- A slice of knots, as far as their places go. -/
def AtsAt (w : World) (v : Value) (n : Nat) (P : List Nat) : Prop :=
  ∃ (p : Option Addr) (cap : Nat), v = .slice p n cap ∧ n ≤ cap ∧ cap ≤ maxLen ∧ (0 < n → ∃ b off, p = some ⟨b, off, none⟩ ∧ ∀ i, i < n → w.cell? ⟨b, off + i * 3 + 2, none⟩ = some (.int .i64 ((P.getD i 0 : Nat) : Int)))

theorem AtsAt.below {w w' : World} {v : Value} {n : Nat} {P : List Nat} (h : AtsAt w v n P) (hb : Below w.heap.size w w') : AtsAt w' v n P := by
  obtain ⟨p, cap, hv, h1, h2, h3⟩ := h
  refine ⟨p, cap, hv, h1, h2, fun hne => ?_⟩
  obtain ⟨b, off, hp, hc⟩ := h3 hne
  refine ⟨b, off, hp, fun i hi => ?_⟩
  have a1 := hc i hi
  rw [hb.cell (World.block_lt_of_cell? w _ a1)]
  exact a1

/-- One byte, just laid. -/
theorem lit_cellY (W : World) (t : TypeId) {z : Int} {y : UInt8} (hz : z = (y.toNat : Int)) : (W.alloc (.cells #[.int .u8 z] t)).cell? ⟨W.heap.size, 0, none⟩ = some (.int .u8 (y.toNat : Int)) := by
  subst hz
  rw [cell_of_row _ _ 0 _ _ _ (heap_alloc_new W _)]; rfl
theorem lit_cellYD (W : World) (t : TypeId) {z : Int} {y : UInt8} (hz : z = (y.toNat : Int)) : (W.alloc (.cells #[.int .u8 z] t)).drew.cell? ⟨W.heap.size, 0, none⟩ = some (.int .u8 (y.toNat : Int)) := lit_cellY W t hz

theorem lit_cellYB (W : World) (t : TypeId) (B : Nat) {z : Int} {y : UInt8} (hB : W.heap.size = B) (hz : z = (y.toNat : Int)) : (W.alloc (.cells #[.int .u8 z] t)).cell? ⟨B, 0, none⟩ = some (.int .u8 (y.toNat : Int)) := by
  subst hB
  exact lit_cellY W t hz
theorem lit_cellYBD (W : World) (t : TypeId) (B : Nat) {z : Int} {y : UInt8} (hB : W.heap.size = B) (hz : z = (y.toNat : Int)) : (W.alloc (.cells #[.int .u8 z] t)).drew.cell? ⟨B, 0, none⟩ = some (.int .u8 (y.toNat : Int)) := lit_cellYB W t B hB hz

/-- The box of a knot stands. -/
structure BoxAt (W : World) (X : Nat) (t : TypeId) (vs : Array Value) : Prop where
  row : W.heap[X]? = some (.cells vs t (0, 0))
theorem BoxAt.lt {W : World} {X : Nat} {t : TypeId} {vs : Array Value} (h : BoxAt W X t vs) : X < W.heap.size := (Array.getElem?_eq_some_iff.1 h.row).1
theorem BoxAt.next {W W' : World} {X : Nat} {t : TypeId} {vs : Array Value} (h : BoxAt W X t vs) (hb : Below W.heap.size W W') : BoxAt W' X t vs := ⟨(hb.block X h.lt).trans h.row⟩
theorem BoxAt.grew {W W' : World} {X : Nat} {t : TypeId} {vs : Array Value} {v v' : Value} (h : BoxAt W X t vs) (hg : Grew W W' v v') (hv : v.ownBlock ≠ some X) : BoxAt W' X t vs := ⟨(hg.block h.lt hv).trans h.row⟩
theorem BoxAt.cell {W : World} {X : Nat} {t : TypeId} {vs : Array Value} (h : BoxAt W X t vs) (i : Nat) : W.cell? ⟨X, i, none⟩ = vs[i]? := cell_of_row W X i _ _ _ h.row
theorem BoxAt.alloc {W : World} {X : Nat} {t : TypeId} {vs : Array Value} (h : BoxAt W X t vs) (ob : Obj) : BoxAt (W.alloc ob) X t vs := h.next ((Below.refl _ _).alloc (Nat.le_refl _) _)

theorem sz1 (w : World) (o : Obj) : w.heap.size + 1 ≤ (w.alloc o).heap.size := by simp
theorem belTo {B : Nat} {w W1 W2 W3 : World} (h : Below B w W1) (hB : B ≤ W1.heap.size) (hA : Below W1.heap.size W1 W2) (hb : Below W2.heap.size W2 W3) : Below B w W3 := (h.trans (hA.mono hB)).trans (hb.mono (Nat.le_trans hB hA.size))

theorem Grew.ne {w w' : World} {v v' : Value} (h : Grew w w' v v') {X : Nat} (hv : v.ownBlock ≠ some X) (hX : X < w.heap.size) : v'.ownBlock ≠ some X := by
  rcases h.lies with e | ⟨k, e, hk⟩
  · rw [e]; exact hv
  · rw [e]; intro e'; cases e'; omega

/-- What stands while a child is put: its box, and its knot's place. -/
structure KidIn (W : World) (X : Nat) (vs : Array Value) (vb vo : Nat) (u : Value) : Prop where
  box : BoxAt W X 74 vs
  plc : W.cell? ⟨vb, vo, none⟩ = some u
theorem KidIn.next {W W' : World} {X : Nat} {vs : Array Value} {vb vo : Nat} {u : Value} (h : KidIn W X vs vb vo u) (hb : Below W.heap.size W W') : KidIn W' X vs vb vo u :=
  ⟨h.box.next hb, (hb.cell (p := ⟨vb, vo, none⟩) (World.block_lt_of_cell? W _ h.plc)).trans h.plc⟩
theorem KidIn.grew {W W' : World} {X : Nat} {vs : Array Value} {vb vo : Nat} {u v v' : Value} (h : KidIn W X vs vb vo u) (hg : Grew W W' v v') (hv : v.ownBlock ≠ some X) (hvb : v.ownBlock ≠ some vb) : KidIn W' X vs vb vo u :=
  ⟨h.box.grew hg hv, hg.cell h.plc hvb⟩
theorem KidIn.alloc {W : World} {X : Nat} {vs : Array Value} {vb vo : Nat} {u : Value} (h : KidIn W X vs vb vo u) (ob : Obj) : KidIn (W.alloc ob) X vs vb vo u := h.next ((Below.refl _ _).alloc (Nat.le_refl _) _)

theorem kids_step {P : List Nat} {B1 : List UInt8} {kids : List (List UInt8 × Nat)} {j : Nat} {r : List UInt8 × Nat} (hr : kids[j]? = some r) :
    B1 ++ (kids.take (j + 1)).flatMap (kidB P) = ((B1 ++ (kids.take j).flatMap (kidB P)) ++ r.1) ++ [0] ++ putM (P.getD r.2 0) := by
  rw [take_snoc hr]
  simp [kidB]
theorem kids_le {P : List Nat} (B1 : List UInt8) (kids : List (List UInt8 × Nat)) (j : Nat) : (B1 ++ (kids.take j).flatMap (kidB P)).length ≤ (B1 ++ kids.flatMap (kidB P)).length := by
  have e : kids.flatMap (kidB P) = (kids.take j).flatMap (kidB P) ++ (kids.drop j).flatMap (kidB P) := by rw [← List.flatMap_append, List.take_append_drop]
  rw [e]
  simp only [List.length_append]
  omega

def KbR (w : World) (B1 : List UInt8) (P : List Nat) (kids : List (List UInt8 × Nat)) (t5 t20 : Value) (wr : World) : Prop :=
  ∃ k : Nat, k ≤ kids.length ∧ t20 = .int .i64 (k : Int) ∧ OB wr w.heap.size 5 t5 (B1 ++ (kids.take k).flatMap (kidB P)) ∧ Below w.heap.size w wr

set_option maxHeartbeats 8000000 in
set_option maxRecDepth 100000 in
theorem kn_bytes (w : World) (ptr kv : Value) (at_ : Int) (k : Knot) (hp : SP w ptr k.says) (hg : ∀ x, k.says = some x → GoodX x) (hk : KS w kv k.kids) (v : Value) (n : Nat) (P : List Nat) (hv : AtsAt w v n P) (hlt : ∀ r ∈ k.kids, r.2 < n)
    (hP : ∀ i, P.getD i 0 < 4611686018427387904) (hcap : (knotB P k).length ≤ 1099511627776) :
    Calls Tryz.prog 23 #[.agg #[ptr, kv, .int .i64 at_], v] w (BytesEnd w (knotB P k)) := by
  obtain ⟨kp, kc, rfl⟩ := hk.form
  obtain ⟨vp, vc, hvf⟩ : ∃ p cap, v = .slice p n cap := by obtain ⟨p, cap, hv, -⟩ := hv; exact ⟨p, cap, hv⟩
  subst hvf
  obtain ⟨y, hy⟩ : ∃ y : UInt8, y = UInt8.ofNat k.kids.length := ⟨_, rfl⟩
  have hy1 : (k.kids.length : Int) % 256 = (y.toNat : Int) := by rw [hy]; simp
  have hy2 : IntKind.u8.wrap (k.kids.length : Int) = (y.toNat : Int) := hy1
  have hb0 : Below w.heap.size w (w.alloc (.cells #[ptr, .slice kp k.kids.length kc, .int .i64 at_] 56)) := (Below.refl _ _).alloc (Nat.le_refl _) _
  have hbox : BoxAt (w.alloc (.cells #[ptr, .slice kp k.kids.length kc, .int .i64 at_] 56)) w.heap.size 56 #[ptr, .slice kp k.kids.length kc, .int .i64 at_] := ⟨heap_alloc_new w _⟩
  obtain ⟨ib, R⟩ := u8rowX
  have hkl := hk.len
  have H := hid (And.intro hp (And.intro hg (And.intro hk (And.intro hv (And.intro hlt (And.intro hP (And.intro hcap R)))))))
  have Hy := hid (And.intro hy (And.intro hy1 hy2))
  have Hb := hid hb0
  have HX := hid hbox
  clear hp hg hk hv hlt hP hcap R hy hy1 hy2 hb0 hbox
  obtain ⟨S1, hS1⟩ : ∃ L, L = saidM k.says := ⟨_, rfl⟩
  obtain ⟨B1, hB1⟩ : ∃ L, L = S1 ++ [y] := ⟨_, rfl⟩
  have hkn : knotB P k = B1 ++ k.kids.flatMap (kidB P) := by rw [hB1, hS1, Hy.out.1]; unfold knotB; simp
  have hSl : S1.length ≤ 1099511627776 := by
    have := H.out.2.2.2.2.2.2.1
    rw [hkn, hB1] at this
    simp only [List.length_append, List.length_singleton] at this
    omega
  have HS := hid (And.intro hS1 (And.intro hB1 hkn))
  clear hS1 hB1 hkn
  go_enter Tryz.func23, Tryz.ntmps23
  go_wp2_with fail
  have hi := HX.out
  go_region_held3 (fun W => W.cell? ⟨w.heap.size, 0, none⟩ = some ptr ∧ W.cell? ⟨w.heap.size, 1, none⟩ = some (.slice kp k.kids.length kc))
    (first | exact ⟨hi.cell 0, hi.cell 1⟩ | exact ⟨(hi.alloc _).cell 0, (hi.alloc _).cell 1⟩)
    (first
      | (go_at_call 45; (with_reducible refine (said_any _ ptr k.says ?_ H.out.2.1).mono ?_); exact H.out.1.below (by repeat (first | exact Below.refl _ _ | refine below_drewX ?_ | refine below_drewNX ?_ _ | refine Below.alloc ?_ (by simp) _)); rintro e W2 ⟨⟨a2, p2, rfl, ho2⟩, hb2⟩; rw [← HS.out.1] at ho2 ⊢; have hi : BoxAt W2 w.heap.size 56 #[ptr, .slice kp k.kids.length kc, .int .i64 at_] := (HX.out.next (by repeat (first | exact Below.refl _ _ | refine below_drewX ?_ | refine below_drewNX ?_ _ | refine Below.alloc ?_ (by simp) _))).next hb2; have HC := hid (And.intro (ho2.base (Nat.le_trans (sz1 w _) (bsz (by repeat (first | exact Below.refl _ _ | refine below_drewX ?_ | refine below_drewNX ?_ _ | refine Below.alloc ?_ (by simp) _))))) (And.intro (belTo Hb.out (by simp) (by repeat (first | exact Below.refl _ _ | refine below_drewX ?_ | refine below_drewNX ?_ _ | refine Below.alloc ?_ (by simp) _)) hb2) ((Grew.refl _ (.slice none 0 0)).over hb2))); clear ho2 hb2)
      | (have _t := HC.out.1; refine step_bytes H.out.2.2.2.2.2.2.2 _ rfl (.tmp 10) (.tmp 15) _ rfl (w.heap.size + 1) (.slice a2 S1.length p2) S1 rfl ?_ _ [y] rfl ?_ ?_ ?_ ?_; exact HC.out.1.below (by repeat (first | exact Below.refl _ _ | refine below_drewX ?_ | refine below_drewNX ?_ _ | refine Below.alloc ?_ (by simp) _)); (first | (refine Src.keptX (v := .slice none 0 0) y (Grew.refl _ _) ?_ ?_; (first | exact lit_cellYB _ _ _ (by simp) Hy.out.2.2 | exact lit_cellYBD _ _ _ (by simp) Hy.out.2.2); (intro e; cases e)) | (refine Src.keptX (v := .slice none 0 0) y HC.out.2.2 ?_ ?_; (first | exact lit_cellYB _ _ _ (by simp) Hy.out.2.2 | exact lit_cellYBD _ _ _ (by simp) Hy.out.2.2); (intro e; cases e))); (rw [List.length_singleton]; omega); exact Nat.le_trans (Nat.le_trans (Nat.le_trans (sz1 w _) (bsz (by repeat (first | exact Below.refl _ _ | refine below_drewX ?_ | refine below_drewNX ?_ _ | refine Below.alloc ?_ (by simp) _)))) HC.out.2.2.size) (bsz (by repeat (first | exact Below.refl _ _ | refine below_drewX ?_ | refine below_drewNX ?_ _ | refine Below.alloc ?_ (by simp) _))); intro v3 W3 ho3 hg3; rw [← HS.out.2.1] at ho3; obtain ⟨a3, p3, hv3⟩ := OB.form ho3; subst hv3; have hi : BoxAt W3 w.heap.size 56 #[ptr, .slice kp k.kids.length kc, .int .i64 at_] := (hi.next (by repeat (first | exact Below.refl _ _ | refine below_drewX ?_ | refine below_drewNX ?_ _ | refine Below.alloc ?_ (by simp) _))).grew hg3 (fun e => by have := HC.out.1.high _ e; omega); have G3 : Grew W2 W3 _ _ := Grew.under (by repeat (first | exact Below.refl _ _ | refine below_drewX ?_ | refine below_drewNX ?_ _ | refine Below.alloc ?_ (by simp) _)) hg3; have H3 := hid (And.intro ho3 G3); clear ho3 hg3 G3 _t)
      | fail "no call")
  all_goals
    have c1 : W3.cell? ⟨w.heap.size, 1, none⟩ = some (.slice kp k.kids.length kc) := hi.cell 1
    have hb3 : Below w.heap.size w W3 := HC.out.2.1.trans (H3.out.2.below HC.out.2.1.size (fun q hq => by have := HC.out.1.high q hq; omega))
    have HB3 := hid (And.intro hb3 (H3.out.1.base (Nat.le_succ _)))
    clear hb3 hi
    go_wp2_with fail
    go_loopw [5, 20] (fun t5 t20 wr => KbR w B1 P k.kids t5 t20 wr) (fun _ i _ => k.kids.length - (intOf i).toNat)
    case atStart => exact ⟨0, Nat.zero_le _, rfl, by simpa using HB3.out.2, HB3.out.1⟩
    case round =>
      obtain ⟨j, hj, rfl, hown, hbl⟩ := hrel
      obtain ⟨L0, hL0⟩ : ∃ L, L = B1 ++ (k.kids.take j).flatMap (kidB P) := ⟨_, rfl⟩
      rw [← hL0] at hown
      have hl0 : L0.length ≤ 1099511627776 := by
        have h1 := H.out.2.2.2.2.2.2.1
        rw [HS.out.2.2] at h1
        have h2 := kids_le (P := P) B1 k.kids j
        rw [← hL0] at h2
        omega
      obtain ⟨t5a, t5c, hv5⟩ := hown.form
      subst hv5
      by_cases hlt : j < k.kids.length
      · obtain ⟨r, hr⟩ : ∃ r, k.kids[j]? = some r := ⟨_, List.getElem?_eq_getElem hlt⟩
        obtain ⟨kb, ko, hkp, x0, x1⟩ := (H.out.2.2.1.below hbl).at hr
        subst hkp
        have hrn := H.out.2.2.2.2.1 r (List.mem_of_getElem? hr)
        obtain ⟨vp', vc', hvq, hvn, hvm, hvc⟩ := H.out.2.2.2.1
        cases hvq
        obtain ⟨vb, vo, hvp, hvcell⟩ := hvc (by omega)
        subst hvp
        obtain ⟨p, hp⟩ : ∃ p, p = P.getD r.2 0 := ⟨_, rfl⟩
        have hvlt : vb < w.heap.size := World.block_lt_of_cell? w _ (hvcell r.2 hrn)
        have y0 := (hbl.cell (p := ⟨vb, vo + r.2 * 3 + 2, none⟩) hvlt).trans (hvcell r.2 hrn)
        rw [← hp] at y0
        have hpb : p < 4611686018427387904 := by rw [hp]; exact H.out.2.2.2.2.2.1 r.2
        have hstep := kids_step (P := P) (B1 := B1) hr
        rw [← hL0, ← hp] at hstep
        obtain ⟨E, N2, hrr⟩ : ∃ E N2, r = (E, N2) := ⟨_, _, rfl⟩
        subst hrr
        dsimp only at x0 x1 y0 hrn hstep hp
        obtain ⟨L1, hL1⟩ : ∃ L, L = L0 ++ E := ⟨_, rfl⟩
        obtain ⟨L2, hL2⟩ : ∃ L, L = L1 ++ [0] := ⟨_, rfl⟩
        obtain ⟨L3, hL3⟩ : ∃ L, L = L2 ++ putM p := ⟨_, rfl⟩
        rw [← hL1, ← hL2, ← hL3] at hstep
        have hl3 : L3.length ≤ 1099511627776 := by
          have h1 := H.out.2.2.2.2.2.2.1
          rw [HS.out.2.2] at h1
          have h2 := kids_le (P := P) B1 k.kids (j + 1)
          rw [hstep] at h2
          omega
        have hlp := putM_len p
        have e1 : L1.length = L0.length + E.length := by rw [hL1, List.length_append]
        have e2 : L2.length = L1.length + 1 := by rw [hL2, List.length_append]; rfl
        have e3 : L3.length = L2.length + (putM p).length := by rw [hL3, List.length_append]
        have bE : L0.length + E.length ≤ 1099511627776 := by omega
        have b2 : L1.length + 1 ≤ 1099511627776 := by omega
        have b3 : L2.length + (putM p).length ≤ 1099511627776 := by omega
        have hbA : Below wr.heap.size wr (wr.alloc (.cells #[.string (mkS E), .int .i64 (N2 : Int)] 74)) := (Below.refl _ _).alloc (Nat.le_refl _) _
        have hi0 : KidIn (wr.alloc (.cells #[.string (mkS E), .int .i64 (N2 : Int)] 74)) wr.heap.size #[.string (mkS E), .int .i64 (N2 : Int)] vb (vo + N2 * 3 + 2) (.int .i64 (p : Int)) :=
          ⟨⟨heap_alloc_new wr _⟩, (hbA.cell (p := ⟨vb, vo + N2 * 3 + 2, none⟩) (Nat.lt_of_lt_of_le hvlt hbl.size)).trans y0⟩
        have n0 : (Value.slice t5a L0.length t5c).ownBlock ≠ some wr.heap.size := fun e => by have := hown.lt _ e; omega
        have n0v : (Value.slice t5a L0.length t5c).ownBlock ≠ some vb := fun e => by have := hown.high _ e; omega
        have hz0 : w.heap.size ≤ wr.heap.size := hbl.size
        have HL := hid (And.intro hL1 (And.intro hL2 (And.intro hL3 hstep)))
        have HI := hid (And.intro hi0 (And.intro (hown.below hbA) (And.intro n0 (And.intro n0v (And.intro (hbl.trans (hbA.mono hz0)) hown)))))
        clear hL1 hL2 hL3 hstep e1 e2 e3 hi0 hbA n0 n0v hown hbl y0 hvcell hvc hp hL0 hr
        go_wp2_with fail
        have hi := HI.out.1
        go_region_held3 (fun W => W.cell? ⟨wr.heap.size, 0, none⟩ = some (.string (mkS E)) ∧ W.cell? ⟨wr.heap.size, 1, none⟩ = some (.int .i64 (N2 : Int)) ∧ W.cell? ⟨vb, vo + N2 * 3 + 2, none⟩ = some (.int .i64 (p : Int)))
          (first | exact ⟨hi.box.cell 0, hi.box.cell 1, hi.plc⟩ | exact ⟨(hi.alloc _).box.cell 0, (hi.alloc _).box.cell 1, (hi.alloc _).plc⟩)
          (first
            | (go_at_call 46; have _t := H2.out.1; refine (lb_put' _ _ p ?_ ?_).mono ?_; (first | rfl | exact IntWalk.u64_in _ (by omega)); omega; rintro e W3 ⟨⟨a3, p3, rfl, ho3⟩, hb3⟩; have hi : KidIn W3 wr.heap.size #[.string (mkS E), .int .i64 (N2 : Int)] vb (vo + N2 * 3 + 2) (.int .i64 (p : Int)) := (hi.next (by repeat (first | exact Below.refl _ _ | refine below_drewX ?_ | refine below_drewNX ?_ _ | refine Below.alloc ?_ (by simp) _))).next hb3; have H3 := hid (And.intro ((H2.out.1.below (by repeat (first | exact Below.refl _ _ | refine below_drewX ?_ | refine below_drewNX ?_ _ | refine Below.alloc ?_ (by simp) _))).below hb3) (And.intro (ho3.bs (by omega)) (And.intro (belTo H2.out.2.2.2.2 (H2.out.2.2.2.2.size) (by repeat (first | exact Below.refl _ _ | refine below_drewX ?_ | refine below_drewNX ?_ _ | refine Below.alloc ?_ (by simp) _)) hb3) (And.intro (Nat.le_trans (bsz (by repeat (first | exact Below.refl _ _ | refine below_drewX ?_ | refine below_drewNX ?_ _ | refine Below.alloc ?_ (by simp) _))) (bsz hb3)) trivial)))); clear ho3 hb3 _t)
            | (refine step_bytes H.out.2.2.2.2.2.2.2 _ rfl (.tmp 24) (.tmp 26) _ rfl w.heap.size (.slice t5a L0.length t5c) L0 rfl ?_ (.string (mkS E)) E rfl ?_ ?_ ?_ ?_; exact HI.out.2.1.below (by repeat (first | exact Below.refl _ _ | refine below_drewX ?_ | refine below_drewNX ?_ _ | refine Below.alloc ?_ (by simp) _)); exact Src.ofMkS _ un_strX E; omega; exact Nat.le_trans HI.out.2.2.2.2.1.size (bsz (by repeat (first | exact Below.refl _ _ | refine below_drewX ?_ | refine below_drewNX ?_ _ | refine Below.alloc ?_ (by simp) _))); intro v1 W1 ho1 hg1; rw [← HL.out.1] at ho1; obtain ⟨a1, p1, hv1⟩ := OB.form ho1; subst hv1; have hi : KidIn W1 wr.heap.size #[.string (mkS E), .int .i64 (N2 : Int)] vb (vo + N2 * 3 + 2) (.int .i64 (p : Int)) := (hi.next (by repeat (first | exact Below.refl _ _ | refine below_drewX ?_ | refine below_drewNX ?_ _ | refine Below.alloc ?_ (by simp) _))).grew hg1 HI.out.2.2.1 HI.out.2.2.2.1; have G1 : Grew (wr.alloc (.cells #[.string (mkS E), .int .i64 (N2 : Int)] 74)) W1 _ _ := Grew.under (by repeat (first | exact Below.refl _ _ | refine below_drewX ?_ | refine below_drewNX ?_ _ | refine Below.alloc ?_ (by simp) _)) hg1; have H1 := hid (And.intro ho1 (And.intro hg1 (And.intro (G1.ne HI.out.2.2.1 (by simp)) (And.intro (G1.ne HI.out.2.2.2.1 (by simp; omega)) (HI.out.2.2.2.2.1.trans (G1.below HI.out.2.2.2.2.1.size (fun q hq => HI.out.2.1.high q hq))))))); clear ho1 hg1 G1)
            | (refine step_bytes H.out.2.2.2.2.2.2.2 _ rfl (.tmp 27) (.tmp 28) _ rfl w.heap.size (.slice a1 L1.length p1) L1 rfl ?_ _ [0] rfl ?_ ?_ ?_ ?_; exact H1.out.1.below (by repeat (first | exact Below.refl _ _ | refine below_drewX ?_ | refine below_drewNX ?_ _ | refine Below.alloc ?_ (by simp) _)); (first | (refine Src.keptX (v := .slice none 0 0) 0 (Grew.refl _ _) ?_ ?_; (first | exact lit_cellYB _ _ _ (by simp) rfl | exact lit_cellYBD _ _ _ (by simp) rfl); (intro e; cases e)) | (refine Src.keptX 0 H1.out.2.1 ?_ ?_; (first | exact lit_cellYB _ _ _ (by simp) rfl | exact lit_cellYBD _ _ _ (by simp) rfl); (intro e; have := HI.out.2.2.2.2.2.lt _ e; omega))); (rw [List.length_singleton]; omega); exact Nat.le_trans H1.out.2.2.2.2.size (bsz (by repeat (first | exact Below.refl _ _ | refine below_drewX ?_ | refine below_drewNX ?_ _ | refine Below.alloc ?_ (by simp) _))); intro v2 W2 ho2 hg2; rw [← HL.out.2.1] at ho2; obtain ⟨a2, p2, hv2⟩ := OB.form ho2; subst hv2; have q1 := hi.box.lt; have hi : KidIn W2 wr.heap.size #[.string (mkS E), .int .i64 (N2 : Int)] vb (vo + N2 * 3 + 2) (.int .i64 (p : Int)) := (hi.next (by repeat (first | exact Below.refl _ _ | refine below_drewX ?_ | refine below_drewNX ?_ _ | refine Below.alloc ?_ (by simp) _))).grew hg2 H1.out.2.2.1 H1.out.2.2.2.1; have G2 : Grew W1 W2 _ _ := Grew.under (by repeat (first | exact Below.refl _ _ | refine below_drewX ?_ | refine below_drewNX ?_ _ | refine Below.alloc ?_ (by simp) _)) hg2; have H2 := hid (And.intro ho2 (And.intro trivial (And.intro (G2.ne H1.out.2.2.1 q1) (And.intro (G2.ne H1.out.2.2.2.1 (Nat.lt_of_lt_of_le hvlt H1.out.2.2.2.2.size)) (H1.out.2.2.2.2.trans (G2.below H1.out.2.2.2.2.size (fun q hq => H1.out.1.high q hq))))))); clear ho2 hg2 G2 q1)
            | (refine step_bytes H.out.2.2.2.2.2.2.2 _ rfl (.tmp 29) (.tmp 37) _ rfl w.heap.size (.slice a2 L2.length p2) L2 rfl ?_ (.slice a3 (putM p).length p3) (putM p) rfl ?_ ?_ ?_ ?_; exact H3.out.1.below (by repeat (first | exact Below.refl _ _ | refine below_drewX ?_ | refine below_drewNX ?_ _ | refine Below.alloc ?_ (by simp) _)); exact Src.ofBS un_bsX (H3.out.2.1.below (by repeat (first | exact Below.refl _ _ | refine below_drewX ?_ | refine below_drewNX ?_ _ | refine Below.alloc ?_ (by simp) _))); omega; exact Nat.le_trans H3.out.2.2.1.size (bsz (by repeat (first | exact Below.refl _ _ | refine below_drewX ?_ | refine below_drewNX ?_ _ | refine Below.alloc ?_ (by simp) _))); intro v4 W4 ho4 hg4; rw [← HL.out.2.2.1] at ho4; obtain ⟨a4, p4, hv4⟩ := OB.form ho4; subst hv4; have hi : KidIn W4 wr.heap.size #[.string (mkS E), .int .i64 (N2 : Int)] vb (vo + N2 * 3 + 2) (.int .i64 (p : Int)) := (hi.next (by repeat (first | exact Below.refl _ _ | refine below_drewX ?_ | refine below_drewNX ?_ _ | refine Below.alloc ?_ (by simp) _))).grew hg4 H2.out.2.2.1 H2.out.2.2.2.1; have G4 : Grew W3 W4 _ _ := Grew.under (by repeat (first | exact Below.refl _ _ | refine below_drewX ?_ | refine below_drewNX ?_ _ | refine Below.alloc ?_ (by simp) _)) hg4; have H4 := hid (And.intro ho4 (H3.out.2.2.1.trans (G4.below H3.out.2.2.1.size (fun q hq => H3.out.1.high q hq)))); clear ho4 hg4 G4)
            | fail "no call")
        all_goals
          clear hi
          go_wp2_with fail
          go_roundw
          case rel => exact ⟨j + 1, by omega, by go_num, by rw [HL.out.2.2.2]; exact H4.out.1, H4.out.2⟩
          case measure => simp [intOf]; omega
      · have hjk : j = k.kids.length := by omega
        have hfin : L0 = knotB P k := by rw [hL0, HS.out.2.2, List.take_of_length_le (by omega)]
        rw [hfin] at hown
        have HE := hid (And.intro hown hbl)
        rw [hfin]
        clear hown hbl hjk hL0 hfin
        go_wp2_with fail
        go_ret
        exact ⟨⟨t5a, t5c, rfl, HE.out.1⟩, HE.out.2⟩
end Go.Proofs.YtipgcdpmkpjokaaGreatDoor
