/- A number's bytes: leb.Put, the reference's Put. -/
import Derived.Test.YthhjdkcnkdffcaaGreatZSortM
import Derived.Test.YthhjdkcnkdffcaaGreatZAppend
import Derived.Test.YthhjdkcnkdffcaaGreatRows
import Derived.Deep.RegionHeld3
import Derived.Deep.RegionWith
namespace Go.Proofs.YthhjdkcnkdffcaaGreat
set_option linter.unusedSimpArgs false
set_option linter.unusedVariables false
open Go.RowKit
theorem Tryz.infoByte8 : (Tryz.prog.info? 5).map (fun i => (i.zero, i.size, i.bytes)) = some (some (.int .u8 0), 1, 1) := by kernel_rfl
theorem un_bsX : Tryz.prog.underlying 27 = some (.slice 5) := by kernel_rfl
theorem u8rowX : ∃ i, U8Row Tryz.prog 27 5 i := by
  obtain ⟨i, hi, hz, hs, hb⟩ := info_parts Tryz.infoByte8
  exact ⟨i, un_bsX, hi, hz, hs, hb⟩
/-- One byte that was just laid. -/
theorem Src.byteX {P : Program} (w : World) {tx e' t : TypeId} (hk : P.underlying tx = some (.slice e')) (x : Int) (y : UInt8) (hx : x = (y.toNat : Int)) (m : Nat × Nat) {B : Nat} (hB : w.heap.size = B) :
    Src P 1 tx (.slice (some ⟨B, 0, none⟩) 1 1) [y].length (u8s [y]) (w.alloc (.cells #[.int .u8 x] t m)) := by
  subst hB
  subst hx
  exact Src.one w hk _ rfl m
/-- Bytes of the call's own. -/
def BytesEnd (w : World) (l : List UInt8) (e : Ending) (w' : World) : Prop := (∃ a cap, e = .returned (.slice a l.length cap) ∧ OB w' w.heap.size 5 (.slice a l.length cap) l) ∧ Below w.heap.size w w'
theorem lt128 {n : Nat} (hn : n < 18446744073709551616) : n < 128 ^ 10 := by
  have h10 : (128 : Nat) ^ 10 = 1180591620717411303424 := by decide
  omega
theorem OB.one (w : World) (x : Int) (y : UInt8) (hx : x = (y.toNat : Int)) : OB (w.alloc (.cells #[.int .u8 x] 5)) w.heap.size 5 (.slice (some ⟨w.heap.size, 0, none⟩) 1 1) [y] := by
  subst hx
  exact OB.laid w [y] (by simp)
set_option maxHeartbeats 1000000 in
/-- The reference's. -/
theorem ref_putF : ∀ (f : Nat) (w : World) (n : Nat), n < 128 ^ (f + 1) → f < 10 → n < 18446744073709551616 → Calls Tryz.prog 24 #[.int .u64 (n : Int)] w (BytesEnd w (putF (f + 1) n)) := by
  intro f
  induction f with
  | zero =>
    intro w n h _ h64
    rw [putF_small (by simpa using h)]
    have hlt : n < 128 := by simpa using h
    have d1 : decide ((n : Int) < 128) = true := by rw [decide_eq_true_eq]; omega
    have d2 : decide (n < 128) = true := by rw [decide_eq_true_eq]; omega
    have H := hid (And.intro (OB.one w ((n : Int) % 256) (UInt8.ofNat n) (by simp)) (OB.one w (n : Int) (UInt8.ofNat n) (by simp; omega)))
    clear h
    go_enter Tryz.func24, Tryz.ntmps24
    go_wp2_with fail
    go_ret
    exact ⟨⟨_, _, rfl, (by first | exact H.out.1 | exact H.out.2)⟩, (Below.refl _ _).alloc (Nat.le_refl _) _⟩
  | succ f ih =>
    intro w n h hf h64
    by_cases hlt : n < 128
    · rw [putF_small hlt]
      have d1 : decide ((n : Int) < 128) = true := by rw [decide_eq_true_eq]; omega
      have d2 : decide (n < 128) = true := by rw [decide_eq_true_eq]; omega
      have H := hid (And.intro (OB.one w ((n : Int) % 256) (UInt8.ofNat n) (by simp)) (OB.one w (n : Int) (UInt8.ofNat n) (by simp; omega)))
      clear h
      go_enter Tryz.func24, Tryz.ntmps24
      go_wp2_with fail
      go_ret
      exact ⟨⟨_, _, rfl, (by first | exact H.out.1 | exact H.out.2)⟩, (Below.refl _ _).alloc (Nat.le_refl _) _⟩
    · rw [putF_big hlt]
      have d1 : decide ((n : Int) < 128) = false := by rw [decide_eq_false_iff_not]; omega
      have d2 : decide (n < 128) = false := by rw [decide_eq_false_iff_not]; omega
      obtain ⟨y, hy⟩ : ∃ y : UInt8, y = UInt8.ofNat (n % 128 + 128) := ⟨_, rfl⟩
      have hyn : (y.toNat : Int) = (n : Int) % 128 + 128 := by rw [hy]; simp; omega
      have hp : 128 ^ (f + 1 + 1) = 128 ^ (f + 1) * 128 := Nat.pow_succ ..
      have hih := fun w => ih w (n / 128) (by omega) (by omega) (by omega)
      obtain ⟨r, hr⟩ : ∃ r, r = putF (f + 1) (n / 128) := ⟨_, rfl⟩
      have hrl : r.length ≤ 20 := by rw [hr]; have := putF_len (f + 1) (n / 128); omega
      rw [← hr] at hih
      rw [← hr, ← hy]
      have hdv : (n : Int) / 128 = ((n / 128 : Nat) : Int) := by omega
      obtain ⟨ib, R⟩ := u8rowX
      have H := hid (And.intro R (And.intro hih (And.intro (OB.one w _ y hyn.symm) hdv)))
      clear h hy hr hih hp R ih hyn hdv
      go_enter Tryz.func24, Tryz.ntmps24
      go_wp2_with fail
      rw [H.out.2.2.2]
      refine (H.out.2.1 _).mono ?_
      rintro e w1 ⟨⟨a, c, rfl, ho1⟩, hb1⟩
      have hbw : Below w.heap.size w w1 := ((Below.refl w.heap.size w).alloc (Nat.le_refl _) _).trans (hb1.mono (by simp))
      have H1 := hid (And.intro (H.out.2.2.1.below hb1) (And.intro (ho1.bs (by omega)) hbw))
      have hz := hbw.size
      clear ho1 hb1 hbw
      go_wp2_with (at_builtin; refine wpList_bytes H.out.1 _ rfl _ _ _ rfl w.heap.size _ [y] rfl H1.out.1 _ r rfl (Src.ofBS un_bsX H1.out.2.1) ?c7 ?c8 ?_)
      case c7 => simp; omega
      case c8 => exact hz
      intro v2 w2 ho2 hg2
      have hb2 : Below w.heap.size w w2 := H1.out.2.2.trans (hg2.below hz (fun k hk => H1.out.1.high k hk))
      have H2 := hid (And.intro ho2 hb2)
      clear ho2 hg2 hb2
      go_wp2_with fail
      go_ret
      obtain ⟨a2, c2, hv2⟩ := H2.out.1.form
      subst hv2
      exact ⟨⟨a2, c2, rfl, H2.out.1⟩, H2.out.2⟩
theorem ref_put (w : World) (n : Nat) (hn : n < 18446744073709551616) : Calls Tryz.prog 24 #[.int .u64 (n : Int)] w (BytesEnd w (putM n)) := ref_putF 9 w n (lt128 hn) (by omega) hn
end Go.Proofs.YthhjdkcnkdffcaaGreat

namespace Go.Proofs.YthhjdkcnkdffcaaGreat
set_option linter.unusedSimpArgs false
set_option linter.unusedVariables false
open Go.RowKit
/-- What a pointer points at: nothing, or an export. -/
def SP (w : World) (ptr : Value) (s : Option Exp) : Prop :=
  match s with
  | none => ptr = .pointer none
  | some x => ∃ b o, ptr = .pointer (some ⟨b, o, none⟩) ∧ ∀ c u, x.cells[c]? = some u → w.cell? ⟨b, o + c, none⟩ = some u
theorem SP.below {w w' : World} {ptr : Value} {s : Option Exp} (h : SP w ptr s) (hb : Below w.heap.size w w') : SP w' ptr s := by
  cases s with
  | none => exact h
  | some x =>
    obtain ⟨b, o, h1, h2⟩ := h
    refine ⟨b, o, h1, fun c u hu => ?_⟩
    have h3 := h2 c u hu
    rw [hb.cell (World.block_lt_of_cell? w _ h3)]
    exact h3
theorem below_drewX {B : Nat} {w w' : World} (h : Below B w w') : Below B w w'.drew := ⟨h.os, h.tape, h.output, h.size, h.block⟩
theorem below_drewNX {B : Nat} {w w' : World} (h : Below B w w') (q : Nat) : Below B w (w'.drewN q) := ⟨h.os, h.tape, h.output, h.size, h.block⟩
theorem bsz {w w' : World} (h : Below w.heap.size w w') : w.heap.size ≤ w'.heap.size := h.size
theorem un_strX : Tryz.prog.underlying 9 = some .string := by kernel_rfl
/-- What was laid ahead is there still. -/
theorem Src.keptX {W0 W' : World} {v v' : Value} {k : Nat} (y : UInt8) (G : Grew W0 W' v v') (hc : W0.cell? ⟨k, 0, none⟩ = some (.int .u8 (y.toNat : Int))) (hv : v.ownBlock ≠ some k) :
    Src Tryz.prog 1 27 (.slice (some ⟨k, 0, none⟩) 1 1) [y].length (u8s [y]) W' :=
  Src.ofSlice _ un_bsX _ 1 1 [.int .u8 (y.toNat : Int)] (by simp) (fun j u hu => by
    cases j with
    | zero =>
      simp at hu; subst hu
      exact G.cell hc hv
    | succ j => simp at hu) (fun u hu => by simp at hu; subst hu; rfl)
end Go.Proofs.YthhjdkcnkdffcaaGreat

namespace Go.Proofs.YthhjdkcnkdffcaaGreat
set_option linter.unusedSimpArgs false
set_option linter.unusedVariables false
open Go.RowKit
/-- A slice that reads as children: edges, numbers. -/
def KS (w : World) (v : Value) (l : List (List UInt8 × Nat)) : Prop :=
  ∃ (p : Option Addr) (cap : Nat), v = .slice p l.length cap ∧ l.length ≤ cap ∧ (cap ≤ maxLen ∧ l.length ≤ 140737488355328) ∧
    (l ≠ [] → ∃ b off, p = some ⟨b, off, none⟩ ∧ ∀ i r, l[i]? = some r → w.cell? ⟨b, off + i * 2, none⟩ = some (.string (mkS r.1)) ∧ w.cell? ⟨b, off + i * 2 + 1, none⟩ = some (.int .i64 (r.2 : Int)))
theorem KS.below {w w' : World} {v : Value} {l : List (List UInt8 × Nat)} (h : KS w v l) (hb : Below w.heap.size w w') : KS w' v l := by
  obtain ⟨p, cap, hv, h1, h2, h3⟩ := h
  refine ⟨p, cap, hv, h1, h2, fun hne => ?_⟩
  obtain ⟨b, off, hp, hc⟩ := h3 hne
  refine ⟨b, off, hp, fun i r hr => ?_⟩
  obtain ⟨a1, a2⟩ := hc i r hr
  rw [hb.cell (World.block_lt_of_cell? w _ a1), hb.cell (World.block_lt_of_cell? w _ a2)]
  exact ⟨a1, a2⟩
theorem KS.form {w : World} {v : Value} {l : List (List UInt8 × Nat)} (h : KS w v l) : ∃ p cap, v = .slice p l.length cap := by
  obtain ⟨p, cap, hv, -⟩ := h; exact ⟨p, cap, hv⟩
theorem KS.len {w : World} {v : Value} {l : List (List UInt8 × Nat)} (h : KS w v l) : l.length ≤ 140737488355328 := by
  obtain ⟨p, cap, hv, h1, h2, -⟩ := h; exact h2.2
theorem KS.at {w : World} {p : Option Addr} {n cap : Nat} {l : List (List UInt8 × Nat)} (h : KS w (.slice p n cap) l) {i : Nat} {r : List UInt8 × Nat} (hr : l[i]? = some r) :
    ∃ b off, p = some ⟨b, off, none⟩ ∧ w.cell? ⟨b, off + i * 2, none⟩ = some (.string (mkS r.1)) ∧ w.cell? ⟨b, off + i * 2 + 1, none⟩ = some (.int .i64 (r.2 : Int)) := by
  obtain ⟨p', cap', hv, h1, h2, h3⟩ := h
  cases hv
  obtain ⟨b, off, hp, hc⟩ := h3 (by intro e; subst e; simp at hr)
  exact ⟨b, off, hp, hc i r hr⟩
/-- One byte, just laid. -/
theorem lit_cellY (W : World) (t : TypeId) {z : Int} {y : UInt8} (hz : z = (y.toNat : Int)) : (W.alloc (.cells #[.int .u8 z] t)).cell? ⟨W.heap.size, 0, none⟩ = some (.int .u8 (y.toNat : Int)) := by
  subst hz
  rw [cell_of_row _ _ 0 _ _ _ (heap_alloc_new W _)]; rfl
theorem lit_cellYB (W : World) (t : TypeId) (B : Nat) {z : Int} {y : UInt8} (hB : W.heap.size = B) (hz : z = (y.toNat : Int)) : (W.alloc (.cells #[.int .u8 z] t)).cell? ⟨B, 0, none⟩ = some (.int .u8 (y.toNat : Int)) := by
  subst hB
  exact lit_cellY W t hz
theorem lit_cellYBD (W : World) (t : TypeId) (B : Nat) {z : Int} {y : UInt8} (hB : W.heap.size = B) (hz : z = (y.toNat : Int)) : (W.alloc (.cells #[.int .u8 z] t)).drew.cell? ⟨B, 0, none⟩ = some (.int .u8 (y.toNat : Int)) := lit_cellYB W t B hB hz
/-- The box of a knot stands. -/
structure BoxAt (W : World) (X : Nat) (t : TypeId) (vs : Array Value) : Prop where
  row : W.heap[X]? = some (.cells vs t (0, 0))
theorem BoxAt.lt {W : World} {X : Nat} {t : TypeId} {vs : Array Value} (h : BoxAt W X t vs) : X < W.heap.size := (Array.getElem?_eq_some_iff.1 h.row).1
theorem BoxAt.next {W W' : World} {X : Nat} {t : TypeId} {vs : Array Value} (h : BoxAt W X t vs) (hb : Below W.heap.size W W') : BoxAt W' X t vs := ⟨(hb.block X h.lt).trans h.row⟩
theorem BoxAt.grew {W W' : World} {X : Nat} {t : TypeId} {vs : Array Value} {v v' : Value} (h : BoxAt W X t vs) (hg : Grew W W' v v') (hv : v.ownBlock ≠ some X) : BoxAt W' X t vs := ⟨(hg.block h.lt hv).trans h.row⟩
theorem BoxAt.cell {W : World} {X : Nat} {t : TypeId} {vs : Array Value} (h : BoxAt W X t vs) (i : Nat) : W.cell? ⟨X, i, none⟩ = vs[i]? := cell_of_row W X i _ _ _ h.row
theorem BoxAt.alloc {W : World} {X : Nat} {t : TypeId} {vs : Array Value} (h : BoxAt W X t vs) (ob : Obj) : BoxAt (W.alloc ob) X t vs := h.next ((Below.refl _ _).alloc (Nat.le_refl _) _)
theorem sz1 (w : World) (o : Obj) : w.heap.size + 1 ≤ (w.alloc o).heap.size := by simp
theorem belTo {B : Nat} {w W1 W2 W3 : World} (h : Below B w W1) (hB : B ≤ W1.heap.size) (hA : Below W1.heap.size W1 W2) (hb : Below W2.heap.size W2 W3) : Below B w W3 := (h.trans (hA.mono hB)).trans (hb.mono (Nat.le_trans hB hA.size))
theorem Grew.ne {w w' : World} {v v' : Value} (h : Grew w w' v v') {X : Nat} (hv : v.ownBlock ≠ some X) (hX : X < w.heap.size) : v'.ownBlock ≠ some X := by
  rcases h.lies with e | ⟨k, e, hk⟩
  · rw [e]; exact hv
  · rw [e]; intro e'; cases e'; omega
theorem kids_step {P : List Nat} {B1 : List UInt8} {kids : List (List UInt8 × Nat)} {j : Nat} {r : List UInt8 × Nat} (hr : kids[j]? = some r) :
    B1 ++ (kids.take (j + 1)).flatMap (kidB P) = ((B1 ++ (kids.take j).flatMap (kidB P)) ++ r.1) ++ [0] ++ putM (P.getD r.2 0) := by
  rw [take_snoc hr]
  simp [kidB]
theorem kids_le {P : List Nat} (B1 : List UInt8) (kids : List (List UInt8 × Nat)) (j : Nat) : (B1 ++ (kids.take j).flatMap (kidB P)).length ≤ (B1 ++ kids.flatMap (kidB P)).length := by
  have e : kids.flatMap (kidB P) = (kids.take j).flatMap (kidB P) ++ (kids.drop j).flatMap (kidB P) := by rw [← List.flatMap_append, List.take_append_drop]
  rw [e]
  simp only [List.length_append]
  omega
end Go.Proofs.YthhjdkcnkdffcaaGreat
