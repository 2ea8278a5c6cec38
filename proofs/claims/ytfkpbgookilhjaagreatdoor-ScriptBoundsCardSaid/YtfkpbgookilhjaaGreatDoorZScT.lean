/- The end of reading; what stands while a job is read. -/
import Derived.Test.YtfkpbgookilhjaaGreatDoorZScP
namespace Go.Proofs.YtfkpbgookilhjaaGreatDoor
set_option linter.unusedSimpArgs false
set_option linter.unusedVariables false
open Go.RowKit

set_option maxHeartbeats 1000000 in
/-- All was read, and it may be. -/
theorem rd_end0 (r c : Nat) (w : World) (l : List UInt8) (h : RdAt w r c l l.length) :
    Calls Tryz.prog 42 #[.pointer (some ⟨r, 0, none⟩), .bool true] w fun e w' => e = .returned (.int .i64 0) ∧ Below w.heap.size w w' := by
  obtain ⟨x0, x1⟩ := h.cell
  have H := hid h
  clear h
  go_enter Tryz.func42, Tryz.ntmps42
  go_wp2_with fail
  refine (cur_err0 c _ l _ H.out.cur).mono ?_
  rintro e w1 ⟨rfl, hb1⟩
  have h1 := H.out.below hb1
  clear x0 x1
  obtain ⟨x0, x1⟩ := h1.cell
  have hlen := h1.cur.len
  obtain ⟨v, hv, hvb, hk, hc⟩ := h1.cur
  obtain ⟨⟨y0, y1, -, -⟩, -⟩ := cur_cells hc
  obtain ⟨p, cap, rfl, -⟩ := hv
  have H1 := hid hb1
  clear hb1 h1 hvb hk hc
  go_wp2_with fail
  refine (cur_left c _ p l.length cap l.length (Nat.le_refl _) hlen y0 y1).mono ?_
  rintro e w2 ⟨rfl, q, rfl⟩
  have hz : ((l.length : Int) - (l.length : Int)) = 0 := by omega
  rw [hz]
  go_wp2_with fail
  go_ret
  exact ⟨rfl, ⟨H1.out.os, H1.out.tape, H1.out.output, H1.out.size, H1.out.block⟩⟩

/-- An element of a list of rows. -/
theorem flat_at {α : Type} {cs : α → List Value} {k : Nat} (hlen : ∀ x, (cs x).length = k) : ∀ {l : List α} {i : Nat} {x : α}, l[i]? = some x → ∀ {c : Nat} {u : Value}, (cs x)[c]? = some u → (l.flatMap cs)[i * k + c]? = some u := by
  intro l
  induction l with
  | nil => intro i x h; simp at h
  | cons z l ih =>
    intro i x h c u hu
    rw [List.flatMap_cons]
    cases i with
    | zero =>
      simp at h; subst h
      have hc : c < (cs z).length := (List.getElem?_eq_some_iff.1 hu).1
      rw [Nat.zero_mul, Nat.zero_add, List.getElem?_append_left hc]; exact hu
    | succ i =>
      have := ih (by simpa using h) hu
      rw [List.getElem?_append_right (by rw [hlen, Nat.add_mul]; omega), hlen, show (i + 1) * k + c - k = i * k + c by rw [Nat.add_mul]; omega]
      exact this
/-- A row of the call's own reads as the structs that were laid. -/
theorem rows_of_own {α : Type} {cs : α → List Value} {k : Nat} (hk : 0 < k) (hlen : ∀ x, (cs x).length = k) {W : World} {B : Nat} {e : TypeId} {v : Value} {l : List α} (h : W.ownsRow B e k v l.length (l.flatMap cs)) : RowsAt cs k W v l ∧ ∀ b, inBlk v b → B ≤ b := by
  rcases h.2 with ⟨rfl, h0⟩ | ⟨g, cap, cur, rfl, hbg, hg, hnc, hcm, hcs, htake⟩
  · have hl : l = [] := List.eq_nil_of_length_eq_zero h0
    subst hl
    exact ⟨RowsAt.nil W, fun b hb => hb.elim⟩
  · refine ⟨⟨some ⟨g, 0, none⟩, cap, rfl, hnc, hcm, fun _ => ⟨g, 0, rfl, fun i x hx c u hu => ?_⟩⟩, fun b hb => by have : g = b := hb.2; omega⟩
    have h2 := h.cells (g := g) rfl (i * k + c) u (flat_at hlen hx hu)
    have ea : (⟨g, 0, none⟩ : Addr).add (i * k + c) = ⟨g, 0 + i * k + c, none⟩ := by unfold Addr.add; split <;> simp_all [Nat.add_assoc]
    rwa [ea] at h2

theorem RdAt.put {W W' : World} {r c X : Nat} {l : List UInt8} {k : Nat} (h : RdAt W r c l k) (hr : r ≠ X) (hc : c < X) (hg : W.grownBy W' (some X)) : RdAt W' r c l k := by
  refine ⟨(hg.block r (Array.getElem?_eq_some_iff.1 h.box).1 (fun e => by cases e; exact hr rfl)).trans h.box, ?_, h.ne⟩
  have hcl := h.cur.lt
  obtain ⟨v, hv, hvc, hk, hcc⟩ := h.cur
  exact ⟨v, hv.of_block (fun b hb hlt => hg.block b hlt (fun e => by cases e; have := hvc _ hb; omega)), hvc, hk, (hg.block c hcl (fun e => by cases e; omega)).trans hcc⟩
theorem Below.put {B : Nat} {w W W' : World} {X : Nat} (h : Below B w W) (hB : B ≤ w.heap.size) (hX : B ≤ X) (hg : W.grownBy W' (some X)) : Below B w W' :=
  ⟨hg.os.trans h.os, hg.tape.trans h.tape, hg.output.trans h.output, Nat.le_trans h.size hg.size, fun b hb => (hg.block b (Nat.lt_of_lt_of_le hb (Nat.le_trans hB h.size)) (fun e => by cases e; omega)).trans (h.block b hb)⟩
theorem KAt.put {W W' : World} {K r X : Nat} (h : KAt W K r) (hK : K ≠ X) (hg : W.grownBy W' (some X)) : KAt W' K r := h.next hK hg

/-- What stands while a job is read: the reader in r, its box in K, the cursor in c, the result in X. -/
structure OfIn (w W : World) (X c r K : Nat) (l : List UInt8) (k : Nat) (y : List UInt8) (Z : Array Value) (t : TypeId) : Prop where
  rd : RdAt W r c l k
  left : l.drop k = y
  bel : Below w.heap.size w W
  ka : KAt W K r
  res : W.heap[X]? = some (.cells Z t (0, 0))
structure OfOrd (w : World) (X c r K : Nat) : Prop where
  a : w.heap.size ≤ X
  b : X < c
  d : c < r
  e : r < K
section
variable {w W W' : World} {X c r K : Nat} {l : List UInt8} {k k' : Nat} {y y' : List UInt8} {Z : Array Value} {t : TypeId}
theorem OfIn.next (h : OfIn w W X c r K l k y Z t) (o : OfOrd w X c r K) (hr : RdAt W' r c l k') (hd : l.drop k' = y') (hg : W.grownBy W' (some c)) : OfIn w W' X c r K l k' y' Z t :=
  ⟨hr, hd, Below.put h.bel (Nat.le_refl _) (by have := o.a; have := o.b; omega) hg, h.ka.next (by have := o.d; have := o.e; omega) hg, (hg.block X (Array.getElem?_eq_some_iff.1 h.res).1 (fun e => by cases e; have := o.b; omega)).trans h.res⟩
theorem OfIn.below (h : OfIn w W X c r K l k y Z t) (hb : Below W.heap.size W W') : OfIn w W' X c r K l k y Z t :=
  ⟨h.rd.below hb, h.left, h.bel.trans (hb.mono h.bel.size), h.ka.below hb, (hb.block X (Array.getElem?_eq_some_iff.1 h.res).1).trans h.res⟩
/-- A cell of a later block is written. -/
theorem OfIn.put (h : OfIn w W X c r K l k y Z t) (o : OfOrd w X c r K) {J : Nat} (hJ : K < J) (hg : W.grownBy W' (some J)) : OfIn w W' X c r K l k y Z t := by
  have := o.a; have := o.b; have := o.d; have := o.e
  exact ⟨h.rd.put (by omega) (by omega) hg, h.left, Below.put h.bel (Nat.le_refl _) (by omega) hg, h.ka.put (by omega) hg, (hg.block X (Array.getElem?_eq_some_iff.1 h.res).1 (fun e => by cases e; omega)).trans h.res⟩
end
/-- .. and the job that is being laid in J. -/
structure OfJ (w W : World) (X c r K J : Nat) (l : List UInt8) (k : Nat) (y : List UInt8) (Z : Array Value) (t : TypeId) (C : Array Value) : Prop where
  i : OfIn w W X c r K l k y Z t
  row : W.heap[J]? = some (.cells C t (0, 0))
section
variable {w W W' : World} {X c r K J : Nat} {l : List UInt8} {k k' : Nat} {y y' : List UInt8} {Z C C' : Array Value} {t : TypeId}
theorem OfJ.lt (h : OfJ w W X c r K J l k y Z t C) : J < W.heap.size := (Array.getElem?_eq_some_iff.1 h.row).1
theorem OfJ.next (h : OfJ w W X c r K J l k y Z t C) (o : OfOrd w X c r K) (hJ : K < J) (hr : RdAt W' r c l k') (hd : l.drop k' = y') (hg : W.grownBy W' (some c)) : OfJ w W' X c r K J l k' y' Z t C :=
  ⟨h.i.next o hr hd hg, (hg.block J h.lt (fun e => by cases e; have := o.d; have := o.e; omega)).trans h.row⟩
theorem OfJ.below (h : OfJ w W X c r K J l k y Z t C) (hb : Below W.heap.size W W') : OfJ w W' X c r K J l k y Z t C := ⟨h.i.below hb, (hb.block J h.lt).trans h.row⟩
theorem OfJ.put (h : OfJ w W X c r K J l k y Z t C) (o : OfOrd w X c r K) (hJ : K < J) (hg : W.grownBy W' (some J)) (hrow : W'.heap[J]? = some (.cells C' t (0, 0))) : OfJ w W' X c r K J l k y Z t C' := ⟨h.i.put o hJ hg, hrow⟩
theorem OfJ.frozen (h : OfJ w W X c r K J l k y Z t C) (i : Nat) : W.frozen? ⟨J, i, none⟩ = false := frozen_of_row W J i _ _ h.row
theorem OfJ.cell (h : OfJ w W X c r K J l k y Z t C) {i : Nat} {u : Value} (hu : C[i]? = some u) : W.cell? ⟨J, i, none⟩ = some u := (cell_of_row W J i _ _ _ h.row).trans hu
end
theorem OfJ.drew {w W : World} {X c r K J : Nat} {l : List UInt8} {k : Nat} {y : List UInt8} {Z C : Array Value} {t : TypeId} (h : OfJ w W X c r K J l k y Z t C) : OfJ w W.drew X c r K J l k y Z t C :=
  ⟨⟨h.i.rd.drew, h.i.left, ⟨h.i.bel.os, h.i.bel.tape, h.i.bel.output, h.i.bel.size, h.i.bel.block⟩, ⟨h.i.ka.box⟩, h.i.res⟩, h.row⟩
theorem put1 {W : World} {J i : Nat} {C : Array Value} {t : TypeId} (u : Value) (h : W.heap[J]? = some (.cells C t (0, 0))) : W.grownBy (W.setCell ⟨J, i, none⟩ u) (some J) ∧ (W.setCell ⟨J, i, none⟩ u).heap[J]? = some (.cells (C.setIfInBounds i u) t (0, 0)) :=
  ⟨grownBy_setB _ _ _ _, heap_setCell_same W J i C t u h⟩
theorem put3 {W : World} {J i1 i2 i3 : Nat} {C : Array Value} {t : TypeId} (u1 u2 u3 : Value) (h : W.heap[J]? = some (.cells C t (0, 0))) :
    W.grownBy (((W.setCell ⟨J, i1, none⟩ u1).setCell ⟨J, i2, none⟩ u2).setCell ⟨J, i3, none⟩ u3) (some J) ∧ (((W.setCell ⟨J, i1, none⟩ u1).setCell ⟨J, i2, none⟩ u2).setCell ⟨J, i3, none⟩ u3).heap[J]? = some (.cells (((C.setIfInBounds i1 u1).setIfInBounds i2 u2).setIfInBounds i3 u3) t (0, 0)) := by
  have a := put1 (i := i1) u1 h
  have b := put1 (i := i2) u2 a.2
  have d := put1 (i := i3) u3 b.2
  exact ⟨grownBy_tr a.1 (grownBy_tr b.1 d.1), d.2⟩
theorem put6 {W : World} {J : Nat} {c0 c1 c2 c3 c4 c5 : Value} {t : TypeId} (u0 u1 u2 u3 u4 u5 : Value) (h : W.heap[J]? = some (.cells #[c0, c1, c2, c3, c4, c5] t (0, 0))) :
    W.grownBy ((((((W.setCell ⟨J, 0, none⟩ u0).setCell ⟨J, 1, none⟩ u1).setCell ⟨J, 2, none⟩ u2).setCell ⟨J, 3, none⟩ u3).setCell ⟨J, 4, none⟩ u4).setCell ⟨J, 5, none⟩ u5) (some J) ∧ ((((((W.setCell ⟨J, 0, none⟩ u0).setCell ⟨J, 1, none⟩ u1).setCell ⟨J, 2, none⟩ u2).setCell ⟨J, 3, none⟩ u3).setCell ⟨J, 4, none⟩ u4).setCell ⟨J, 5, none⟩ u5).heap[J]? = some (.cells #[u0, u1, u2, u3, u4, u5] t (0, 0)) := by
  have a := put3 (i1 := 0) (i2 := 1) (i3 := 2) u0 u1 u2 h
  have b := put3 (i1 := 3) (i2 := 4) (i3 := 5) u3 u4 u5 a.2
  exact ⟨grownBy_tr a.1 b.1, b.2⟩
/-- Where a job's slices lie. -/
structure JobHigh (J : Nat) (V : JobV) : Prop where
  files : ∀ b, inBlk (.slice V.fp V.fs.length V.fc) b → J < b
  each : ∀ x ∈ V.fs, ∀ b, inBlk (.slice x.p x.n x.cap) b → J < b
  ins : ∀ b, inBlk (.slice V.ip V.ins.length V.ic) b → J < b
theorem JobAt.grown {W W' : World} {J X : Nat} {V : JobV} (h : JobAt W V) (hi : JobHigh J V) (hX : X ≤ J) (hg : W.grownBy W' (some X)) : JobAt W' V := by
  have hne : ∀ b, J < b → (some b : Option Nat) ≠ some X := fun b hb e => by cases e; omega
  exact ⟨RowsAt.of_block h.files (fun x _ => ⟨_, rfl⟩) (fun b hb hlt => hg.block b hlt (hne b (hi.files b hb))), fun f hf => ⟨(h.each f hf).1, fun hn => ((h.each f hf).2 hn).of_block (fun b hb hlt => hg.block b hlt (hne b (hi.each f hf b hb)))⟩, RowsAt.of_block h.ins (fun x _ => ⟨_, rfl⟩) (fun b hb hlt => hg.block b hlt (hne b (hi.ins b hb))), h.base⟩
/-- All was read: the job stands in J. -/
structure OfEnd (w W : World) (X c r K J : Nat) (l : List UInt8) (Z : Array Value) (t : TypeId) (V : JobV) : Prop where
  j : OfJ w W X c r K J l l.length [] Z t V.cells
  at_ : JobAt W V
  hi : JobHigh J V
theorem OfEnd.below {w W W' : World} {X c r K J : Nat} {l : List UInt8} {Z : Array Value} {t : TypeId} {V : JobV} (h : OfEnd w W X c r K J l Z t V) (hb : Below W.heap.size W W') : OfEnd w W' X c r K J l Z t V := ⟨h.j.below hb, h.at_.below hb, h.hi⟩
theorem OfEnd.drew {w W : World} {X c r K J : Nat} {l : List UInt8} {Z : Array Value} {t : TypeId} {V : JobV} (h : OfEnd w W X c r K J l Z t V) : OfEnd w W.drew X c r K J l Z t V := ⟨h.j.drew, h.at_.below ⟨rfl, rfl, rfl, Nat.le_refl _, fun _ _ => rfl⟩, h.hi⟩
theorem OfEnd.mk' {w W W' : World} {X c r K J : Nat} {l : List UInt8} {k : Nat} {Z : Array Value} {t : TypeId} {fp : Option Addr} {fc : Nat} {fs : List FileV} {main : List UInt8} {ip : Option Addr} {ic : Nat} {ins : List (List UInt8)} {arch : Int} {base : Nat} {flat : Bool}
    (o : OfOrd w X c r K) (hJ : K < J) (h : OfJ w W X c r K J l k [] Z t #[.slice none 0 0, .string (mkS main), .slice ip ins.length ic, .int .i64 arch, .int .u64 (base : Int), .bool flat])
    (hg : W.grownBy W' (some J)) (hrow : W'.heap[J]? = some (.cells #[.slice fp fs.length fc, .string (mkS main), .slice ip ins.length ic, .int .i64 arch, .int .u64 (base : Int), .bool flat] t (0, 0)))
    (hft : FilesAt W (.slice fp fs.length fc) fs) (hfb : ∀ b, inBlk (.slice fp fs.length fc) b → J < b) (hea : ∀ x ∈ fs, BS W (.slice x.p x.n x.cap) x.bytes ∧ ∀ b, inBlk (.slice x.p x.n x.cap) b → J < b) (hst : StrsAt W (.slice ip ins.length ic) ins) (hsb : ∀ b, inBlk (.slice ip ins.length ic) b → J < b) (hbase : base < 2 ^ 64) :
    OfEnd w W' X c r K J l Z t ⟨fp, fc, fs, main, ip, ic, ins, arch, base, flat⟩ := by
  have hk : k = l.length := by
    have h1 := congrArg List.length h.i.left
    have h2 := h.i.rd.cur.le
    rw [List.length_drop] at h1
    simp at h1; omega
  subst hk
  have hi : JobHigh J ⟨fp, fc, fs, main, ip, ic, ins, arch, base, flat⟩ := ⟨hfb, fun x hx => (hea x hx).2, hsb⟩
  suffices h0 : JobAt W ⟨fp, fc, fs, main, ip, ic, ins, arch, base, flat⟩ from ⟨h.put o hJ hg hrow, h0.grown hi (Nat.le_refl _) hg, hi⟩
  refine ⟨hft, fun f hf => ?_, hst, hbase⟩
  · have h1 := (hea f hf).1
    refine ⟨?_, fun _ => h1⟩
    obtain ⟨a1, b1, he, -⟩ := h1
    exact (Value.slice.inj he).2.1.symm
theorem OfEnd.zs {w W : World} {X c r K J : Nat} {l : List UInt8} {Z : Array Value} {fp : Option Addr} {fc : Nat} {fs : List FileV} {main : List UInt8} {ip : Option Addr} {ic : Nat} {ins : List (List UInt8)} {arch : Int} {base : Nat} {flat : Bool}
    (h : OfEnd w W X c r K J l Z 27 ⟨fp, fc, fs, main, ip, ic, ins, arch, base, flat⟩) :
    W.cell? ⟨J, 0, none⟩ = some (.slice fp fs.length fc) ∧ W.cell? ⟨J, 1, none⟩ = some (.string (mkS main)) ∧ W.cell? ⟨J, 2, none⟩ = some (.slice ip ins.length ic) ∧ W.cell? ⟨J, 3, none⟩ = some (.int .i64 arch) ∧ W.cell? ⟨J, 4, none⟩ = some (.int .u64 (base : Int)) ∧ W.cell? ⟨J, 5, none⟩ = some (.bool flat) :=
  JobBox.at h.j.row
/-- The job is stored into the result's block. -/
theorem OfEnd.fin {w W W' : World} {X c r K J : Nat} {l : List UInt8} {Z : Array Value} {t : TypeId} {V : JobV} (h : OfEnd w W X c r K J l Z t V) (o : OfOrd w X c r K) (hJ : K < J) (hg : W.grownBy W' (some X)) : JobAt W' V ∧ Below w.heap.size w W' :=
  ⟨h.at_.grown h.hi (by have := o.b; have := o.d; have := o.e; omega) hg, Below.put h.j.i.bel (Nat.le_refl _) o.a hg⟩
/-- The strings of a row. -/
theorem strCs_flat (l : List (List UInt8)) : strCs l = l.flatMap strC := by
  induction l with
  | nil => rfl
  | cons s l ih => rw [List.flatMap_cons, ← ih]; rfl
end Go.Proofs.YtfkpbgookilhjaaGreatDoor
