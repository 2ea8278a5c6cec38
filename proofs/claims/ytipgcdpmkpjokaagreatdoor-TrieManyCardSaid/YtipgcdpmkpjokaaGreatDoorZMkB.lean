/- What is said of a name, as bytes: the program's said. -/
import Derived.Test.YtipgcdpmkpjokaaGreatDoorZMkA
import Derived.Test.YtipgcdpmkpjokaaGreatDoorZSortM
import Derived.Deep.RegionHeld3
import Derived.Deep.RegionWith
namespace Go.Proofs.YtipgcdpmkpjokaaGreatDoor
set_option linter.unusedSimpArgs false
set_option linter.unusedVariables false
open Go.RowKit

/-- What a pointer points at: nothing, or an export. -/
def SP (w : World) (ptr : Value) (s : Option Exp) : Prop :=
  match s with
  | none => ptr = .pointer none
  | some x => ∃ b o, ptr = .pointer (some ⟨b, o, none⟩) ∧ ∀ c u, x.cells[c]? = some u → w.cell? ⟨b, o + c, none⟩ = some u

theorem SP.below {w w' : World} {ptr : Value} {s : Option Exp} (h : SP w ptr s) (hb : Below w.heap.size w w') : SP w' ptr s := by
  cases s with
  | none => exact h
  | some x =>
    obtain ⟨b, o, h1, h2⟩ := h
    refine ⟨b, o, h1, fun c u hu => ?_⟩
    have h3 := h2 c u hu
    rw [hb.cell (World.block_lt_of_cell? w _ h3)]
    exact h3

theorem said_nil (w : World) : Calls Tryz.prog 45 #[.pointer none] w (BytesEnd w (saidM none)) := by
  have H := hid (OB.one w 0 0 rfl)
  go_enter Tryz.func45, Tryz.ntmps45
  go_wp2_with fail
  go_ret
  exact ⟨⟨_, _, rfl, H.out⟩, (Below.refl _ _).alloc (Nat.le_refl _) _⟩

set_option maxRecDepth 20000 in
/-- The map that was made last, one entry more. -/
theorem map_push (w : World) (es : Array MapEntry) (c : Nat) (k : Int) (v : Value) (h : Instr.findNow (.int .i64) (.int .i64 k) es.toList 0 = some none) :
    (Instr.mapUpdate 123 (.map (some w.heap.size)) (.int .i64 k) v).run Tryz.prog (w.alloc (.map es c)) = .ok () (w.alloc (.map (es.push { key := .int .i64 k, val := v, born := c }) (c + 1))) := by
  have hb : (w.alloc (.map es c)).heap[w.heap.size]? = some (.map es c) := heap_alloc_new w _
  have hc : (Instr.checkKey false 10000 25 (.int .i64 k)).run Tryz.prog (w.alloc (.map es c)) = .ok () (w.alloc (.map es c)) := MapKept.run_checkKey (d := .int .i64) (k := .int .i64 k) Tryz.underlying25 (by simp [MapKept.IsKey]) false 9999
  simp only [Instr.mapUpdate, Sem.run_bind, run_underlying Tryz.underlying123, Result.andThen_ok, MapKept.run_getObj_map hb, hc, MapKept.run_findKey (d := .int .i64) Tryz.underlying25 h, MapKept.run_setObj_map _ hb]
  congr 1
  simp only [World.alloc]
  congr 1
  apply Array.ext_getElem?
  intro j
  rw [Array.getElem?_setIfInBounds]
  by_cases hj : w.heap.size = j
  · subst hj; simp
  · rw [if_neg hj, Array.getElem?_push, Array.getElem?_push]
    have hj' : ¬ j = w.heap.size := fun e => hj e.symm
    rw [if_neg hj', if_neg hj']

def flagMap : Array MapEntry := #[{ key := .int .i64 2, val := .int .u64 2, born := 0 }, { key := .int .i64 3, val := .int .u64 8, born := 1 }, { key := .int .i64 4, val := .int .u64 16, born := 2 }]
set_option maxRecDepth 20000 in
theorem map_look (w : World) (k : Int) (i : Nat) (v : Value) (h : Instr.findNow (.int .i64) (.int .i64 k) flagMap.toList 0 = some (some (i, v))) :
    (Instr.lookup 123 (.map (some w.heap.size)) (.int .i64 k) false).run Tryz.prog (w.alloc (.map flagMap 3)) = .ok v (w.alloc (.map flagMap 3)) := by
  have hb : (w.alloc (.map flagMap 3)).heap[w.heap.size]? = some (.map flagMap 3) := heap_alloc_new w _
  have hc : ∀ e, (Instr.checkKey e 10000 25 (.int .i64 k)).run Tryz.prog (w.alloc (.map flagMap 3)) = .ok () (w.alloc (.map flagMap 3)) := fun e => MapKept.run_checkKey (d := .int .i64) (k := .int .i64 k) Tryz.underlying25 (by simp [MapKept.IsKey]) e 9999
  simp [Instr.lookup, run_underlying Tryz.underlying123, MapKept.run_getObj_map hb, hc, MapKept.run_findKey (d := .int .i64) Tryz.underlying25 h]
set_option maxRecDepth 20000 in
theorem map_none (w : World) (k : Int) (h : Instr.findNow (.int .i64) (.int .i64 k) flagMap.toList 0 = some none) :
    (Instr.lookup 123 (.map (some w.heap.size)) (.int .i64 k) false).run Tryz.prog (w.alloc (.map flagMap 3)) = .ok (.int .u64 0) (w.alloc (.map flagMap 3)) := by
  have hb : (w.alloc (.map flagMap 3)).heap[w.heap.size]? = some (.map flagMap 3) := heap_alloc_new w _
  have hc : ∀ e, (Instr.checkKey e 10000 25 (.int .i64 k)).run Tryz.prog (w.alloc (.map flagMap 3)) = .ok () (w.alloc (.map flagMap 3)) := fun e => MapKept.run_checkKey (d := .int .i64) (k := .int .i64 k) Tryz.underlying25 (by simp [MapKept.IsKey]) e 9999
  simp [Instr.lookup, run_underlying Tryz.underlying123, MapKept.run_getObj_map hb, hc, MapKept.run_findKey (d := .int .i64) Tryz.underlying25 h]

theorem lb_put' (w : World) (z : Int) (n : Nat) (hz : z = n) (hn : n < 18446744073709551616) : Calls Tryz.prog 46 #[.int .u64 z] w (BytesEnd w (putM n)) := by
  subst hz
  exact lb_put w n hn

set_option maxRecDepth 20000 in
/-- The flags that the map has, and the one of weak ones. -/
theorem said_look (k : Int) (h : k = 1 ∨ k = 2 ∨ k = 3 ∨ k = 4) : ∃ fl : Nat, fl = (if k = 2 then 2 else if k = 3 then 8 else if k = 4 then 16 else 0) ∧ ∀ w : World, (Instr.lookup 123 (.map (some w.heap.size)) (.int .i64 k) false).run Tryz.prog (w.alloc (.map flagMap 3)) = .ok (.int .u64 (fl : Int)) (w.alloc (.map flagMap 3)) := by
  rcases h with rfl | rfl | rfl | rfl
  · exact ⟨0, rfl, fun w => map_none w 1 rfl⟩
  · exact ⟨2, rfl, fun w => map_look w 2 0 _ rfl⟩
  · exact ⟨8, rfl, fun w => map_look w 3 1 _ rfl⟩
  · exact ⟨16, rfl, fun w => map_look w 4 2 _ rfl⟩

theorem or4 (fl : Nat) (h : fl = 0 ∨ fl = 2 ∨ fl = 8 ∨ fl = 16) : bits BinOp.or IntKind.u64 (fl : Int) 4 = ((fl + 4 : Nat) : Int) := by
  rcases h with rfl | rfl | rfl | rfl <;> decide +kernel

/-- What stands while said goes on: the export's cells, and the bytes. -/
structure SdIn (w W : World) (b o : Nat) (x : Exp) (v : Value) (l : List UInt8) : Prop where
  cells : ∀ c u, x.cells[c]? = some u → W.cell? ⟨b, o + c, none⟩ = some u
  own : OB W w.heap.size 5 v l
  bel : Below w.heap.size w W

theorem SdIn.below {w W W' : World} {b o : Nat} {x : Exp} {v : Value} {l : List UInt8} (h : SdIn w W b o x v l) (hb : Below W.heap.size W W') : SdIn w W' b o x v l := by
  refine ⟨fun c u hu => ?_, h.own.below hb, h.bel.trans (hb.mono h.bel.size)⟩
  have h3 := h.cells c u hu
  rw [hb.cell (World.block_lt_of_cell? W _ h3)]
  exact h3

theorem SdIn.app {w W W' : World} {b o : Nat} {x : Exp} {v v' : Value} {l l' : List UInt8} (h : SdIn w W b o x v l) (hbo : b < w.heap.size) (ho : OB W' w.heap.size 5 v' l') (hg : Grew W W' v v') : SdIn w W' b o x v' l' := by
  have hb : Below w.heap.size W W' := hg.below h.bel.size (fun k hk => h.own.high k hk)
  refine ⟨fun c u hu => ?_, ho, h.bel.trans hb⟩
  rw [hb.cell (p := ⟨b, o + c, none⟩) hbo]
  exact h.cells c u hu

set_option maxHeartbeats 4000000 in
set_option maxRecDepth 100000 in
theorem said_plain (w : World) (b o : Nat) (x : Exp) (hk : x.kind = 1 ∨ x.kind = 2) (hv : x.value < 18446744073709551616) (hot : x.other.length ≤ 255) (hx : ∀ c u, x.cells[c]? = some u → w.cell? ⟨b, o + c, none⟩ = some u) :
    Calls Tryz.prog 45 #[.pointer (some ⟨b, o, none⟩)] w (BytesEnd w (saidM (some x))) := by
  have hmm := @run_makeMap Tryz.prog
  obtain ⟨fl, hfl, hlook⟩ := said_look x.kind (by omega)
  have hfc : fl = 0 ∨ fl = 2 ∨ fl = 8 ∨ fl = 16 := by rw [hfl]; split <;> (try split) <;> (try split) <;> omega
  have ho4 := or4 fl hfc
  have c1 : w.cell? ⟨b, o + 1, none⟩ = some (.int .i64 x.kind) := hx 1 _ rfl
  have c2 : w.cell? ⟨b, o + 2, none⟩ = some (.bool x.weak) := hx 2 _ rfl
  have hbl : b < w.heap.size := World.block_lt_of_cell? w _ c1
  have m1 := fun w => map_push w #[] 0 2 (.int .u64 2) rfl
  have m2 := fun w => map_push w #[{ key := .int .i64 2, val := .int .u64 2, born := 0 }] 1 3 (.int .u64 8) rfl
  have m3 := fun w => map_push w #[{ key := .int .i64 2, val := .int .u64 2, born := 0 }, { key := .int .i64 3, val := .int .u64 8, born := 1 }] 2 4 (.int .u64 16) rfl
  have d3 : (x.kind == 3) = false := by rw [beq_eq_false_iff_ne]; omega
  have d4 : (x.kind == 4) = false := by rw [beq_eq_false_iff_ne]; omega
  have hfm : flagsM x = fl + (if x.weak then 4 else 0) := by rw [hfl]; rfl
  have hrb : restB x = putM x.value := by unfold restB; rw [if_neg (by omega), if_neg (by omega)]
  unfold flagMap at hlook
  have hneb : b ≠ w.heap.size := by omega
  obtain ⟨ib, R⟩ := u8rowX
  have H := hid (And.intro hx (And.intro hfm (And.intro hrb R)))
  have hfl2 : fl ≤ 16 := by omega
  clear hx hfm hrb hk hfl hfc R
  obtain ⟨F, hF⟩ : ∃ F, F = flagsM x := ⟨_, rfl⟩
  have hFb : F < 18446744073709551616 := by rw [hF, H.out.2.1]; split <;> omega
  have HF := hid hF
  clear hF
  have HFz := hid (show (x.weak = true → ((fl : Int) + 4) = (F : Int)) ∧ (x.weak = false → (fl : Int) = (F : Int)) from by
    have h1 := H.out.2.1
    rw [← HF.out] at h1
    constructor
    · intro h; rw [h] at h1; simp at h1; omega
    · intro h; rw [h] at h1; simp at h1; omega)
  cases hw : x.weak
  all_goals
    rw [hw] at c2
    have Hw := hid hw
    clear hw
    go_enter Tryz.func45, Tryz.ntmps45
    go_wp2_with fail
    refine (lb_put' _ _ F (by first | exact HFz.out.1 Hw.out | exact HFz.out.2 Hw.out) hFb).mono ?_
    rintro e w1 ⟨⟨a1, p1, rfl, ho1⟩, hb1⟩
    have hb1' := ((Below.refl w.heap.size w).alloc (Nat.le_refl _) _).trans (hb1.mono (by simp))
    have s1 : SdIn w w1 b o x (.slice a1 (putM F).length p1) (putM F) := ⟨fun c u hu => (hb1'.cell (p := ⟨b, o + c, none⟩) hbl).trans (H.out.1 c u hu), ho1.base (by simp), hb1'⟩
    have k1 : w1.cell? ⟨b, o + 1, none⟩ = some (.int .i64 x.kind) := s1.cells 1 _ rfl
    have k3 : w1.cell? ⟨b, o + 3, none⟩ = some (.int .u64 (x.value : Int)) := s1.cells 3 _ rfl
    have hz1 := hb1'.size
    have S1 := hid s1
    clear hb1 ho1 hb1' s1 c1 c2 m1 m2 m3 hmm hlook ho4
    go_wp2_with fail
    refine (lb_put _ x.value hv).mono ?_
    rintro e w2 ⟨⟨a2, p2, rfl, ho2⟩, hb2⟩
    have hlF := putM_len F
    have hlV := putM_len x.value
    have H2 := hid (And.intro (S1.out.below hb2) (ho2.bs (by omega)))
    have hz2 := H2.out.1.bel.size
    clear ho2 hb2 k1 k3
    go_wp2_with (at_builtin; refine wpList_bytes H.out.2.2.2 _ rfl _ _ _ rfl w.heap.size _ (putM F) rfl H2.out.1.own _ (putM x.value) rfl (Src.ofBS un_bsX H2.out.2) ?ca ?cb ?_)
    case ca => omega
    case cb => exact hz2
    intro v3 w3 ho3 hg3
    have hB : bodyM x = putM F ++ putM x.value := by unfold bodyM; rw [← HF.out, H.out.2.2.1]
    have s3 := H2.out.1.app hbl ho3 hg3
    rw [← hB] at s3
    clear ho3 hg3 hB
    have hBl := bodyM_len x
    obtain ⟨a3, p3, hv3⟩ := s3.own.form
    subst hv3
    have hz3 := s3.bel.size
    have S3 := hid s3
    clear s3
    go_wp2_with fail
    refine (lb_put' _ _ (bodyM x).length (by first | rfl | exact IntWalk.u64_in _ (by omega)) (by omega)).mono ?_
    rintro e w4 ⟨⟨a4, p4, rfl, ho4⟩, hb4⟩
    have hb4' := S3.out.bel.trans (hb4.mono hz3)
    have hz4 := hb4'.size
    have H4 := hid (And.intro (ho4.base hz3) (And.intro ((S3.out.below hb4).own.bs (by omega)) hb4'))
    clear ho4 hb4 hb4'
    go_wp2_with (at_builtin; refine wpList_bytes H.out.2.2.2 _ rfl _ _ _ rfl w.heap.size _ (putM (bodyM x).length) rfl H4.out.1 _ (bodyM x) rfl (Src.ofBS un_bsX H4.out.2.1) ?cc ?cd ?_)
    case cc => have := putM_len (bodyM x).length; omega
    case cd => exact hz4
    intro v5 w5 ho5 hg5
    have hb5 : Below w.heap.size w w5 := H4.out.2.2.trans (hg5.below hz4 (fun k hk => H4.out.1.high k hk))
    have H5 := hid (And.intro ho5 hb5)
    clear ho5 hg5 hb5
    go_wp2_with fail
    go_ret
    obtain ⟨a5, c5, hv5⟩ := H5.out.1.form
    subst hv5
    exact ⟨⟨a5, c5, rfl, H5.out.1⟩, H5.out.2⟩
theorem below_drewX {B : Nat} {w w' : World} (h : Below B w w') : Below B w w'.drew := ⟨h.os, h.tape, h.output, h.size, h.block⟩
theorem below_drewNX {B : Nat} {w w' : World} (h : Below B w w') (q : Nat) : Below B w (w'.drewN q) := ⟨h.os, h.tape, h.output, h.size, h.block⟩
theorem SdIn.to {w W1 W2 W3 : World} {b o : Nat} {x : Exp} {v : Value} {l : List UInt8} (h : SdIn w W1 b o x v l) (hA : Below W1.heap.size W1 W2) (hb : Below W2.heap.size W2 W3) : SdIn w W2 b o x v l ∧ SdIn w W3 b o x v l ∧ Grew W2 W3 v v :=
  ⟨h.below hA, (h.below hA).below hb, (Grew.refl _ _).over hb⟩

theorem lit_cell (W : World) (t : TypeId) : (W.alloc (.cells #[.int .u8 0] t)).cell? ⟨W.heap.size, 0, none⟩ = some (.int .u8 ((0 : UInt8).toNat : Int)) := by
  rw [cell_of_row _ _ 0 _ _ _ (heap_alloc_new W _)]; rfl
theorem lit_cellD (W : World) (t : TypeId) : (W.alloc (.cells #[.int .u8 0] t)).drew.cell? ⟨W.heap.size, 0, none⟩ = some (.int .u8 ((0 : UInt8).toNat : Int)) := lit_cell W t
theorem bsz {w w' : World} (h : Below w.heap.size w w') : w.heap.size ≤ w'.heap.size := h.size
theorem un_strX : Tryz.prog.underlying 9 = some .string := by kernel_rfl

/-- An export lies there. -/
structure XAt (W : World) (b o : Nat) (x : Exp) : Prop where
  cells : ∀ c u, x.cells[c]? = some u → W.cell? ⟨b, o + c, none⟩ = some u
  lt : b < W.heap.size
theorem XAt.next {W W' : World} {b o : Nat} {x : Exp} (h : XAt W b o x) (hb : Below W.heap.size W W') : XAt W' b o x :=
  ⟨fun c u hu => (hb.cell (p := ⟨b, o + c, none⟩) h.lt).trans (h.cells c u hu), Nat.lt_of_lt_of_le h.lt hb.size⟩
theorem XAt.grew {W W' : World} {b o : Nat} {x : Exp} {v v' : Value} (h : XAt W b o x) (hg : Grew W W' v v') (hv : v.ownBlock ≠ some b) : XAt W' b o x :=
  ⟨fun c u hu => hg.cell (h.cells c u hu) hv, Nat.lt_of_lt_of_le h.lt hg.size⟩
theorem XAt.alloc {W : World} {b o : Nat} {x : Exp} (h : XAt W b o x) (ob : Obj) : XAt (W.alloc ob) b o x := h.next ((Below.refl _ _).alloc (Nat.le_refl _) _)

/-- What was laid ahead is there still. -/
theorem Src.keptX {W0 W' : World} {v v' : Value} {k : Nat} (y : UInt8) (G : Grew W0 W' v v') (hc : W0.cell? ⟨k, 0, none⟩ = some (.int .u8 (y.toNat : Int))) (hv : v.ownBlock ≠ some k) :
    Src Tryz.prog 1 29 (.slice (some ⟨k, 0, none⟩) 1 1) [y].length (u8s [y]) W' :=
  Src.ofSlice _ un_bsX _ 1 1 [.int .u8 (y.toNat : Int)] (by simp) (fun j u hu => by
    cases j with
    | zero =>
      simp at hu; subst hu
      exact G.cell hc hv
    | succ j => simp at hu) (fun u hu => by simp at hu; subst hu; rfl)

set_option maxHeartbeats 4000000 in
set_option maxRecDepth 100000 in
theorem said_other (w : World) (b o : Nat) (x : Exp) (hk : x.kind = 3) (hv : x.ordinal < 18446744073709551616) (hot : x.other.length ≤ 255) (hx : ∀ c u, x.cells[c]? = some u → w.cell? ⟨b, o + c, none⟩ = some u) :
    Calls Tryz.prog 45 #[.pointer (some ⟨b, o, none⟩)] w (BytesEnd w (saidM (some x))) := by
  have hmm := @run_makeMap Tryz.prog
  obtain ⟨fl, hfl, hlook⟩ := said_look x.kind (by omega)
  have hfc : fl = 0 ∨ fl = 2 ∨ fl = 8 ∨ fl = 16 := by rw [hfl]; split <;> (try split) <;> (try split) <;> omega
  have ho4 := or4 fl hfc
  have c1 : w.cell? ⟨b, o + 1, none⟩ = some (.int .i64 x.kind) := hx 1 _ rfl
  have c2 : w.cell? ⟨b, o + 2, none⟩ = some (.bool x.weak) := hx 2 _ rfl
  have hbl : b < w.heap.size := World.block_lt_of_cell? w _ c1
  have m1 := fun w => map_push w #[] 0 2 (.int .u64 2) rfl
  have m2 := fun w => map_push w #[{ key := .int .i64 2, val := .int .u64 2, born := 0 }] 1 3 (.int .u64 8) rfl
  have m3 := fun w => map_push w #[{ key := .int .i64 2, val := .int .u64 2, born := 0 }, { key := .int .i64 3, val := .int .u64 8, born := 1 }] 2 4 (.int .u64 16) rfl
  have d3 : (x.kind == 3) = true := by rw [beq_iff_eq]; exact hk
  have hfm : flagsM x = fl + (if x.weak then 4 else 0) := by rw [hfl]; rfl
  have hrb : restB x = putM x.ordinal ++ (x.other ++ [0]) := by unfold restB; rw [if_pos hk]
  unfold flagMap at hlook
  have hneb : b ≠ w.heap.size := by omega
  obtain ⟨ib, R⟩ := u8rowX
  have H := hid (And.intro hx (And.intro hfm (And.intro hrb R)))
  have hfl2 : fl ≤ 16 := by omega
  clear hx hfm hrb hk hfl hfc R
  obtain ⟨F, hF⟩ : ∃ F, F = flagsM x := ⟨_, rfl⟩
  have hFb : F < 18446744073709551616 := by rw [hF, H.out.2.1]; split <;> omega
  have HF := hid hF
  clear hF
  have HFz := hid (show (x.weak = true → ((fl : Int) + 4) = (F : Int)) ∧ (x.weak = false → (fl : Int) = (F : Int)) from by
    have h1 := H.out.2.1
    rw [← HF.out] at h1
    constructor
    · intro h; rw [h] at h1; simp at h1; omega
    · intro h; rw [h] at h1; simp at h1; omega)
  cases hw : x.weak
  all_goals
    rw [hw] at c2
    have Hw := hid hw
    clear hw
    go_enter Tryz.func45, Tryz.ntmps45
    go_wp2_with fail
    refine (lb_put' _ _ F (by first | exact HFz.out.1 Hw.out | exact HFz.out.2 Hw.out) hFb).mono ?_
    rintro e w1 ⟨⟨a1, p1, rfl, ho1⟩, hb1⟩
    have hb1' := ((Below.refl w.heap.size w).alloc (Nat.le_refl _) _).trans (hb1.mono (by simp))
    have s1 : SdIn w w1 b o x (.slice a1 (putM F).length p1) (putM F) := ⟨fun c u hu => (hb1'.cell (p := ⟨b, o + c, none⟩) hbl).trans (H.out.1 c u hu), ho1.base (by simp), hb1'⟩
    have k1 : w1.cell? ⟨b, o + 1, none⟩ = some (.int .i64 x.kind) := s1.cells 1 _ rfl
    have k3 : w1.cell? ⟨b, o + 5, none⟩ = some (.int .u64 (x.ordinal : Int)) := s1.cells 5 _ rfl
    have k4 : w1.cell? ⟨b, o + 6, none⟩ = some (.string (mkS x.other)) := s1.cells 6 _ rfl
    have hz1 := hb1'.size
    have S1 := hid s1
    clear hb1 ho1 hb1' s1 c1 c2 m1 m2 m3 hmm hlook ho4
    go_wp2_with fail
    go_wp2_with fail
    have hlF := putM_len F
    have hlO := putM_len x.ordinal
    obtain ⟨L3, hL3⟩ : ∃ L, L = putM F ++ putM x.ordinal := ⟨_, rfl⟩
    obtain ⟨L4, hL4⟩ : ∃ L, L = L3 ++ x.other := ⟨_, rfl⟩
    obtain ⟨L5, hL5⟩ : ∃ L, L = L4 ++ [0] := ⟨_, rfl⟩
    have hl3 : L3.length ≤ 20 := by rw [hL3, List.length_append]; omega
    have hl4 : L4.length ≤ 275 := by rw [hL4, List.length_append]; omega
    have HL := hid (And.intro hL3 (And.intro hL4 hL5))
    clear hL3 hL4 hL5
    have hi : XAt w1 b o x := ⟨S1.out.cells, by omega⟩
    go_region_held3 (fun W => W.cell? ⟨b, o + 5, none⟩ = some (.int .u64 (x.ordinal : Int)) ∧ W.cell? ⟨b, o + 6, none⟩ = some (.string (mkS x.other)))
      (first | exact ⟨hi.cells 5 _ rfl, hi.cells 6 _ rfl⟩ | exact ⟨(hi.alloc _).cells 5 _ rfl, (hi.alloc _).cells 6 _ rfl⟩)
      (first
        | (go_at_call 46; (with_reducible refine (lb_put _ x.ordinal hv).mono ?_); rintro e W2 ⟨⟨a2, p2, rfl, ho2⟩, hb2⟩; have HC := hid (SdIn.to S1.out (by repeat (first | exact Below.refl _ _ | refine below_drewX ?_ | refine below_drewNX ?_ _ | refine Below.alloc ?_ (by simp) _)) hb2); have HD := hid (ho2.bs (by omega)); have hi : XAt W2 b o x := ⟨HC.out.2.1.cells, Nat.lt_of_lt_of_le hbl HC.out.2.1.bel.size⟩; clear ho2 hb2)
        | (have _t := HC.out.1; refine step_bytes H.out.2.2.2 _ rfl (.tmp 36) (.tmp 41) _ rfl w.heap.size (.slice a1 (putM F).length p1) (putM F) rfl ?_ (.slice a2 (putM x.ordinal).length p2) (putM x.ordinal) rfl ?_ ?_ ?_ ?_; exact HC.out.2.1.own.below (by repeat (first | exact Below.refl _ _ | refine below_drewX ?_ | refine below_drewNX ?_ _ | refine Below.alloc ?_ (by simp) _)); exact Src.ofBS un_bsX (HD.out.below (by repeat (first | exact Below.refl _ _ | refine below_drewX ?_ | refine below_drewNX ?_ _ | refine Below.alloc ?_ (by simp) _))); omega; exact Nat.le_trans HC.out.2.1.bel.size (bsz (by repeat (first | exact Below.refl _ _ | refine below_drewX ?_ | refine below_drewNX ?_ _ | refine Below.alloc ?_ (by simp) _))); intro v3 W3 ho3 hg3; rw [← HL.out.1] at ho3; obtain ⟨a3, p3, hv3⟩ := OB.form ho3; subst hv3; have hi : XAt W3 b o x := (hi.next (by repeat (first | exact Below.refl _ _ | refine below_drewX ?_ | refine below_drewNX ?_ _ | refine Below.alloc ?_ (by simp) _))).grew hg3 (fun e => by have := HC.out.2.1.own.high _ e; omega); have G3 : Grew W2 W3 _ _ := Grew.under (by repeat (first | exact Below.refl _ _ | refine below_drewX ?_ | refine below_drewNX ?_ _ | refine Below.alloc ?_ (by simp) _)) hg3; have H3 := hid (And.intro ho3 (And.intro hg3 G3)); clear ho3 hg3 G3 _t)
        | (have _t := H3.out.1; refine step_bytes H.out.2.2.2 _ rfl (.tmp 42) (.tmp 46) _ rfl w.heap.size (.slice a3 L3.length p3) L3 rfl ?_ (.string (mkS x.other)) x.other rfl ?_ ?_ ?_ ?_; exact H3.out.1.below (by repeat (first | exact Below.refl _ _ | refine below_drewX ?_ | refine below_drewNX ?_ _ | refine Below.alloc ?_ (by simp) _)); exact Src.ofMkS _ un_strX x.other; omega; exact Nat.le_trans (Nat.le_trans HC.out.2.1.bel.size H3.out.2.2.size) (bsz (by repeat (first | exact Below.refl _ _ | refine below_drewX ?_ | refine below_drewNX ?_ _ | refine Below.alloc ?_ (by simp) _))); intro v4 W4 ho4 hg4; rw [← HL.out.2.1] at ho4; obtain ⟨a4, p4, hv4⟩ := OB.form ho4; subst hv4; have hi : XAt W4 b o x := (hi.next (by repeat (first | exact Below.refl _ _ | refine below_drewX ?_ | refine below_drewNX ?_ _ | refine Below.alloc ?_ (by simp) _))).grew hg4 (fun e => by have := H3.out.1.high _ e; omega); have G4 : Grew W3 W4 _ _ := Grew.under (by repeat (first | exact Below.refl _ _ | refine below_drewX ?_ | refine below_drewNX ?_ _ | refine Below.alloc ?_ (by simp) _)) hg4; have H4 := hid (And.intro ho4 (And.intro hg4 G4)); clear ho4 hg4 G4 _t)
        | (have _t := H4.out.1; refine step_bytes H.out.2.2.2 _ rfl (.tmp 47) (.tmp 48) _ rfl w.heap.size (.slice a4 L4.length p4) L4 rfl ?_ _ [0] rfl ?_ ?_ ?_ ?_; exact H4.out.1.below (by repeat (first | exact Below.refl _ _ | refine below_drewX ?_ | refine below_drewNX ?_ _ | refine Below.alloc ?_ (by simp) _)); (first | (refine Src.keptX (v := .slice none 0 0) 0 (Grew.refl _ _) ?_ ?_; (first | exact lit_cell _ _ | exact lit_cellD _ _ | (simp; done)); (intro e; cases e)) | (refine Src.keptX 0 H4.out.2.1 ?_ ?_; (first | exact lit_cell _ _ | exact lit_cellD _ _ | (simp; done)); (intro e; have := H3.out.1.lt _ e; omega)) | (refine Src.keptX 0 (H3.out.2.1.trans H4.out.2.2) ?_ ?_; (first | exact lit_cell _ _ | exact lit_cellD _ _ | (simp; done)); (intro e; have := HC.out.2.1.own.lt _ e; omega)) | (refine Src.keptX 0 (HC.out.2.2.trans (H3.out.2.2.trans H4.out.2.2)) ?_ ?_; (first | exact lit_cell _ _ | exact lit_cellD _ _ | (simp; done)); (intro e; have := S1.out.own.lt _ e; omega))); (rw [List.length_singleton]; omega); exact Nat.le_trans (Nat.le_trans (Nat.le_trans HC.out.2.1.bel.size H3.out.2.2.size) H4.out.2.2.size) (bsz (by repeat (first | exact Below.refl _ _ | refine below_drewX ?_ | refine below_drewNX ?_ _ | refine Below.alloc ?_ (by simp) _))); intro v5 W5 ho5 hg5; rw [← HL.out.2.2] at ho5; obtain ⟨a5, p5, hv5⟩ := OB.form ho5; subst hv5; have hi : XAt W5 b o x := (hi.next (by repeat (first | exact Below.refl _ _ | refine below_drewX ?_ | refine below_drewNX ?_ _ | refine Below.alloc ?_ (by simp) _))).grew hg5 (fun e => by have := H4.out.1.high _ e; omega); have G5 : Grew W4 W5 _ _ := Grew.under (by repeat (first | exact Below.refl _ _ | refine below_drewX ?_ | refine below_drewNX ?_ _ | refine Below.alloc ?_ (by simp) _)) hg5; have H5 := hid (And.intro ho5 G5); clear ho5 hg5 G5 _t)
        | fail "no call")
    all_goals
      have hb25 : Below w.heap.size w W5 := ((HC.out.2.1.bel.trans (H3.out.2.2.below HC.out.2.1.bel.size (fun k hk => HC.out.2.1.own.high k hk))).trans (H4.out.2.2.below (Nat.le_trans HC.out.2.1.bel.size H3.out.2.2.size) (fun k hk => H3.out.1.high k hk))).trans (H5.out.2.below (Nat.le_trans (Nat.le_trans HC.out.2.1.bel.size H3.out.2.2.size) H4.out.2.2.size) (fun k hk => H4.out.1.high k hk))
      have hB : L5 = bodyM x := by unfold bodyM; rw [← HF.out, H.out.2.2.1, HL.out.2.2, HL.out.2.1, HL.out.1]; simp
      have s3 : SdIn w W5 b o x (.slice a5 L5.length p5) L5 := ⟨hi.cells, H5.out.1, hb25⟩
      rw [hB] at s3 ⊢
      clear hB hb25 hi k1 k3 k4
      have hBl := bodyM_len x
      have hz3 := s3.bel.size
      have S3 := hid s3
      clear s3
      go_wp2_with fail
      refine (lb_put' _ _ (bodyM x).length (by first | rfl | exact IntWalk.u64_in _ (by omega)) (by omega)).mono ?_
      rintro e w4 ⟨⟨a4, p4, rfl, ho4⟩, hb4⟩
      have hb4' := S3.out.bel.trans (hb4.mono hz3)
      have hz4 := hb4'.size
      have H4 := hid (And.intro (ho4.base hz3) (And.intro ((S3.out.below hb4).own.bs (by omega)) hb4'))
      clear ho4 hb4 hb4'
      go_wp2_with (at_builtin; refine wpList_bytes H.out.2.2.2 _ rfl _ _ _ rfl w.heap.size _ (putM (bodyM x).length) rfl H4.out.1 _ (bodyM x) rfl (Src.ofBS un_bsX H4.out.2.1) ?_ ?_ ?_)
      · have := putM_len (bodyM x).length; omega
      · exact hz4
      intro v5 w5 ho5 hg5
      have hb5 : Below w.heap.size w w5 := H4.out.2.2.trans (hg5.below hz4 (fun k hk => H4.out.1.high k hk))
      have H5 := hid (And.intro ho5 hb5)
      clear ho5 hg5 hb5
      go_wp2_with fail
      go_ret
      obtain ⟨a5, c5, hv5⟩ := H5.out.1.form
      subst hv5
      exact ⟨⟨a5, c5, rfl, H5.out.1⟩, H5.out.2⟩
set_option maxHeartbeats 4000000 in
set_option maxRecDepth 100000 in
theorem said_stub (w : World) (b o : Nat) (x : Exp) (hk : x.kind = 4) (hv : x.value < 18446744073709551616) (hr : x.resolver < 18446744073709551616) (hot : x.other.length ≤ 255) (hx : ∀ c u, x.cells[c]? = some u → w.cell? ⟨b, o + c, none⟩ = some u) :
    Calls Tryz.prog 45 #[.pointer (some ⟨b, o, none⟩)] w (BytesEnd w (saidM (some x))) := by
  have hmm := @run_makeMap Tryz.prog
  obtain ⟨fl, hfl, hlook⟩ := said_look x.kind (by omega)
  have hfc : fl = 0 ∨ fl = 2 ∨ fl = 8 ∨ fl = 16 := by rw [hfl]; split <;> (try split) <;> (try split) <;> omega
  have ho4 := or4 fl hfc
  have c1 : w.cell? ⟨b, o + 1, none⟩ = some (.int .i64 x.kind) := hx 1 _ rfl
  have c2 : w.cell? ⟨b, o + 2, none⟩ = some (.bool x.weak) := hx 2 _ rfl
  have hbl : b < w.heap.size := World.block_lt_of_cell? w _ c1
  have m1 := fun w => map_push w #[] 0 2 (.int .u64 2) rfl
  have m2 := fun w => map_push w #[{ key := .int .i64 2, val := .int .u64 2, born := 0 }] 1 3 (.int .u64 8) rfl
  have m3 := fun w => map_push w #[{ key := .int .i64 2, val := .int .u64 2, born := 0 }, { key := .int .i64 3, val := .int .u64 8, born := 1 }] 2 4 (.int .u64 16) rfl
  have d3 : (x.kind == 3) = false := by rw [beq_eq_false_iff_ne]; omega
  have d4 : (x.kind == 4) = true := by rw [beq_iff_eq]; exact hk
  have hfm : flagsM x = fl + (if x.weak then 4 else 0) := by rw [hfl]; rfl
  have hrb : restB x = putM x.value ++ putM x.resolver := by unfold restB; rw [if_neg (by omega), if_pos hk]
  unfold flagMap at hlook
  have hneb : b ≠ w.heap.size := by omega
  obtain ⟨ib, R⟩ := u8rowX
  have H := hid (And.intro hx (And.intro hfm (And.intro hrb R)))
  have hfl2 : fl ≤ 16 := by omega
  clear hx hfm hrb hk hfl hfc R
  obtain ⟨F, hF⟩ : ∃ F, F = flagsM x := ⟨_, rfl⟩
  have hFb : F < 18446744073709551616 := by rw [hF, H.out.2.1]; split <;> omega
  have HF := hid hF
  clear hF
  have HFz := hid (show (x.weak = true → ((fl : Int) + 4) = (F : Int)) ∧ (x.weak = false → (fl : Int) = (F : Int)) from by
    have h1 := H.out.2.1
    rw [← HF.out] at h1
    constructor
    · intro h; rw [h] at h1; simp at h1; omega
    · intro h; rw [h] at h1; simp at h1; omega)
  cases hw : x.weak
  all_goals
    rw [hw] at c2
    have Hw := hid hw
    clear hw
    go_enter Tryz.func45, Tryz.ntmps45
    go_wp2_with fail
    refine (lb_put' _ _ F (by first | exact HFz.out.1 Hw.out | exact HFz.out.2 Hw.out) hFb).mono ?_
    rintro e w1 ⟨⟨a1, p1, rfl, ho1⟩, hb1⟩
    have hb1' := ((Below.refl w.heap.size w).alloc (Nat.le_refl _) _).trans (hb1.mono (by simp))
    have s1 : SdIn w w1 b o x (.slice a1 (putM F).length p1) (putM F) := ⟨fun c u hu => (hb1'.cell (p := ⟨b, o + c, none⟩) hbl).trans (H.out.1 c u hu), ho1.base (by simp), hb1'⟩
    have k1 : w1.cell? ⟨b, o + 1, none⟩ = some (.int .i64 x.kind) := s1.cells 1 _ rfl
    have k3 : w1.cell? ⟨b, o + 3, none⟩ = some (.int .u64 (x.value : Int)) := s1.cells 3 _ rfl
    have k4 : w1.cell? ⟨b, o + 4, none⟩ = some (.int .u64 (x.resolver : Int)) := s1.cells 4 _ rfl
    have hz1 := hb1'.size
    have S1 := hid s1
    clear hb1 ho1 hb1' s1 c1 c2 m1 m2 m3 hmm hlook ho4
    go_wp2_with fail
    go_wp2_with fail
    have hlF := putM_len F
    have hlV := putM_len x.value
    have hlR := putM_len x.resolver
    obtain ⟨L3, hL3⟩ : ∃ L, L = putM F ++ putM x.value := ⟨_, rfl⟩
    obtain ⟨L5, hL5⟩ : ∃ L, L = L3 ++ putM x.resolver := ⟨_, rfl⟩
    have hl3 : L3.length ≤ 20 := by rw [hL3, List.length_append]; omega
    have HL := hid (And.intro hL3 hL5)
    clear hL3 hL5
    have hi : XAt w1 b o x := ⟨S1.out.cells, by omega⟩
    go_region_held3 (fun W => W.cell? ⟨b, o + 3, none⟩ = some (.int .u64 (x.value : Int)) ∧ W.cell? ⟨b, o + 4, none⟩ = some (.int .u64 (x.resolver : Int)))
      (first | exact ⟨hi.cells 3 _ rfl, hi.cells 4 _ rfl⟩ | exact ⟨(hi.alloc _).cells 3 _ rfl, (hi.alloc _).cells 4 _ rfl⟩)
      (first
        | (go_at_call 46; (with_reducible refine (lb_put _ x.value hv).mono ?_); rintro e W2 ⟨⟨a2, p2, rfl, ho2⟩, hb2⟩; have HC := hid (SdIn.to S1.out (by repeat (first | exact Below.refl _ _ | refine below_drewX ?_ | refine below_drewNX ?_ _ | refine Below.alloc ?_ (by simp) _)) hb2); have HD := hid (ho2.bs (by omega)); have hi : XAt W2 b o x := ⟨HC.out.2.1.cells, Nat.lt_of_lt_of_le hbl HC.out.2.1.bel.size⟩; clear ho2 hb2)
        | (go_at_call 46; have _t := H3.out.1; (with_reducible refine (lb_put _ x.resolver hr).mono ?_); rintro e W4 ⟨⟨a4, p4, rfl, ho4⟩, hb4⟩; have hi : XAt W4 b o x := (hi.next (by repeat (first | exact Below.refl _ _ | refine below_drewX ?_ | refine below_drewNX ?_ _ | refine Below.alloc ?_ (by simp) _))).next hb4; have G4 : Grew W3 W4 (.slice a3 L3.length p3) (.slice a3 L3.length p3) := Grew.under (by repeat (first | exact Below.refl _ _ | refine below_drewX ?_ | refine below_drewNX ?_ _ | refine Below.alloc ?_ (by simp) _)) ((Grew.refl _ _).over hb4); have H4 := hid (And.intro ((H3.out.1.below (by repeat (first | exact Below.refl _ _ | refine below_drewX ?_ | refine below_drewNX ?_ _ | refine Below.alloc ?_ (by simp) _))).below hb4) (And.intro (ho4.bs (by omega)) G4)); clear ho4 hb4 G4 _t)
        | (have _t := HC.out.1; refine step_bytes H.out.2.2.2 _ rfl (.tmp 52) (.tmp 57) _ rfl w.heap.size (.slice a1 (putM F).length p1) (putM F) rfl ?_ (.slice a2 (putM x.value).length p2) (putM x.value) rfl ?_ ?_ ?_ ?_; exact HC.out.2.1.own.below (by repeat (first | exact Below.refl _ _ | refine below_drewX ?_ | refine below_drewNX ?_ _ | refine Below.alloc ?_ (by simp) _)); exact Src.ofBS un_bsX (HD.out.below (by repeat (first | exact Below.refl _ _ | refine below_drewX ?_ | refine below_drewNX ?_ _ | refine Below.alloc ?_ (by simp) _))); omega; exact Nat.le_trans HC.out.2.1.bel.size (bsz (by repeat (first | exact Below.refl _ _ | refine below_drewX ?_ | refine below_drewNX ?_ _ | refine Below.alloc ?_ (by simp) _))); intro v3 W3 ho3 hg3; rw [← HL.out.1] at ho3; obtain ⟨a3, p3, hv3⟩ := OB.form ho3; subst hv3; have hi : XAt W3 b o x := (hi.next (by repeat (first | exact Below.refl _ _ | refine below_drewX ?_ | refine below_drewNX ?_ _ | refine Below.alloc ?_ (by simp) _))).grew hg3 (fun e => by have := HC.out.2.1.own.high _ e; omega); have G3 : Grew W2 W3 _ _ := Grew.under (by repeat (first | exact Below.refl _ _ | refine below_drewX ?_ | refine below_drewNX ?_ _ | refine Below.alloc ?_ (by simp) _)) hg3; have H3 := hid (And.intro ho3 (And.intro hg3 G3)); clear ho3 hg3 G3 _t)
        | (have _t := H4.out.1; refine step_bytes H.out.2.2.2 _ rfl (.tmp 58) (.tmp 63) _ rfl w.heap.size (.slice a3 L3.length p3) L3 rfl ?_ (.slice a4 (putM x.resolver).length p4) (putM x.resolver) rfl ?_ ?_ ?_ ?_; exact H4.out.1.below (by repeat (first | exact Below.refl _ _ | refine below_drewX ?_ | refine below_drewNX ?_ _ | refine Below.alloc ?_ (by simp) _)); exact Src.ofBS un_bsX (H4.out.2.1.below (by repeat (first | exact Below.refl _ _ | refine below_drewX ?_ | refine below_drewNX ?_ _ | refine Below.alloc ?_ (by simp) _))); omega; exact Nat.le_trans (Nat.le_trans (Nat.le_trans HC.out.2.1.bel.size H3.out.2.2.size) H4.out.2.2.size) (bsz (by repeat (first | exact Below.refl _ _ | refine below_drewX ?_ | refine below_drewNX ?_ _ | refine Below.alloc ?_ (by simp) _))); intro v5 W5 ho5 hg5; rw [← HL.out.2] at ho5; obtain ⟨a5, p5, hv5⟩ := OB.form ho5; subst hv5; have hi : XAt W5 b o x := (hi.next (by repeat (first | exact Below.refl _ _ | refine below_drewX ?_ | refine below_drewNX ?_ _ | refine Below.alloc ?_ (by simp) _))).grew hg5 (fun e => by have := H4.out.1.high _ e; omega); have G5 : Grew W4 W5 _ _ := Grew.under (by repeat (first | exact Below.refl _ _ | refine below_drewX ?_ | refine below_drewNX ?_ _ | refine Below.alloc ?_ (by simp) _)) hg5; have H5 := hid (And.intro ho5 G5); clear ho5 hg5 G5 _t)
        | fail "no call")
    all_goals
      have hb25 : Below w.heap.size w W5 := ((HC.out.2.1.bel.trans (H3.out.2.2.below HC.out.2.1.bel.size (fun k hk => HC.out.2.1.own.high k hk))).trans (H4.out.2.2.below (Nat.le_trans HC.out.2.1.bel.size H3.out.2.2.size) (fun k hk => H3.out.1.high k hk))).trans (H5.out.2.below (Nat.le_trans (Nat.le_trans HC.out.2.1.bel.size H3.out.2.2.size) H4.out.2.2.size) (fun k hk => H4.out.1.high k hk))
      have hB : L5 = bodyM x := by unfold bodyM; rw [← HF.out, H.out.2.2.1, HL.out.2, HL.out.1]; simp
      have s3 : SdIn w W5 b o x (.slice a5 L5.length p5) L5 := ⟨hi.cells, H5.out.1, hb25⟩
      rw [hB] at s3 ⊢
      clear hB hb25 hi k1 k3 k4
      have hBl := bodyM_len x
      have hz3 := s3.bel.size
      have S3 := hid s3
      clear s3
      go_wp2_with fail
      refine (lb_put' _ _ (bodyM x).length (by first | rfl | exact IntWalk.u64_in _ (by omega)) (by omega)).mono ?_
      rintro e w4 ⟨⟨a4, p4, rfl, ho4⟩, hb4⟩
      have hb4' := S3.out.bel.trans (hb4.mono hz3)
      have hz4 := hb4'.size
      have H4 := hid (And.intro (ho4.base hz3) (And.intro ((S3.out.below hb4).own.bs (by omega)) hb4'))
      clear ho4 hb4 hb4'
      go_wp2_with (at_builtin; refine wpList_bytes H.out.2.2.2 _ rfl _ _ _ rfl w.heap.size _ (putM (bodyM x).length) rfl H4.out.1 _ (bodyM x) rfl (Src.ofBS un_bsX H4.out.2.1) ?_ ?_ ?_)
      · have := putM_len (bodyM x).length; omega
      · exact hz4
      intro v5 w5 ho5 hg5
      have hb5 : Below w.heap.size w w5 := H4.out.2.2.trans (hg5.below hz4 (fun k hk => H4.out.1.high k hk))
      have H5 := hid (And.intro ho5 hb5)
      clear ho5 hg5 hb5
      go_wp2_with fail
      go_ret
      obtain ⟨a5, c5, hv5⟩ := H5.out.1.form
      subst hv5
      exact ⟨⟨a5, c5, rfl, H5.out.1⟩, H5.out.2⟩

/-- What is said, whatever it is. -/
theorem said_any (w : World) (ptr : Value) (sx : Option Exp) (hs : SP w ptr sx) (hg : ∀ x, sx = some x → GoodX x) : Calls Tryz.prog 45 #[ptr] w (BytesEnd w (saidM sx)) := by
  cases sx with
  | none =>
    obtain rfl : ptr = .pointer none := hs
    exact said_nil w
  | some x =>
    obtain ⟨b, o, rfl, hx⟩ := hs
    have g := hg x rfl
    rcases g.kind with ⟨hk, -⟩ | ⟨hk, -⟩ | ⟨hk, -⟩
    · exact said_plain w b o x hk g.v g.other2 hx
    · exact said_other w b o x hk g.o g.other2 hx
    · exact said_stub w b o x hk g.v g.r g.other2 hx
end Go.Proofs.YtipgcdpmkpjokaaGreatDoor
