/- A fault that is told. -/
import Derived.Test.YtfkpbgookilhjaaGreatDoorZScX
import Derived.Test.YtfkpbgookilhjaaGreatDoorZScM
namespace Go.Proofs.YtfkpbgookilhjaaGreatDoor
set_option linter.unusedSimpArgs false
set_option linter.unusedVariables false
open Go.RowKit

set_option maxHeartbeats 400000 in
theorem tl_within (w : World) (n a b : Int) : Calls Tryz.prog 47 #[.int .i64 n, .int .i64 a, .int .i64 b] w fun e w' => e = .returned (.bool (inB2 n a b)) ∧ Below w.heap.size w w' := by
  unfold inB2
  by_cases h1 : a ≤ n
  · have e1 : decide (a ≤ n) = true := decide_eq_true h1
    rw [e1, Bool.true_and]
    go_enter Tryz.func47, Tryz.ntmps47
    go_wp2_with fail
    go_ret
    exact ⟨rfl, Below.refl _ _⟩
  · have e1 : decide (a ≤ n) = false := decide_eq_false h1
    rw [e1, Bool.false_and]
    go_enter Tryz.func47, Tryz.ntmps47
    go_wp2_with fail
    go_ret
    exact ⟨rfl, Below.refl _ _⟩

/-- A told value: its slices' headers. -/
structure ToldH where
  ph : Int
  img : List UInt8
  er : Int
  sp : Option Addr
  sn : Nat
  sc : Nat
  mp : Option Addr
  mn : Nat
  mc : Nat
  np : Option Addr
  nn : Nat
  nc : Nat
  entry : Nat
def ToldH.cells (t : ToldH) : Array Value := #[.int .i64 t.ph, .string (mkS t.img), .int .i64 t.er, .slice t.sp t.sn t.sc, .slice t.mp t.mn t.mc, .slice t.np t.nn t.nc, .int .u64 (t.entry : Int)]
def ToldBox (W : World) (b : Nat) (t : ToldH) : Prop := W.heap[b]? = some (.cells t.cells 49 (0, 0))
theorem ToldBox.lt {W : World} {b : Nat} {t : ToldH} (h : ToldBox W b t) : b < W.heap.size := (Array.getElem?_eq_some_iff.1 h).1
theorem ToldBox.below {W W' : World} {b : Nat} {t : ToldH} (h : ToldBox W b t) (hb : Below W.heap.size W W') : ToldBox W' b t := (hb.block b h.lt).trans h
theorem ToldBox.at {W : World} {b : Nat} {t : ToldH} (h : ToldBox W b t) :
    W.cell? ⟨b, 0, none⟩ = some (.int .i64 t.ph) ∧ W.cell? ⟨b, 1, none⟩ = some (.string (mkS t.img)) ∧ W.cell? ⟨b, 2, none⟩ = some (.int .i64 t.er) ∧ W.cell? ⟨b, 3, none⟩ = some (.slice t.sp t.sn t.sc) ∧ W.cell? ⟨b, 4, none⟩ = some (.slice t.mp t.mn t.mc) ∧ W.cell? ⟨b, 5, none⟩ = some (.slice t.np t.nn t.nc) ∧ W.cell? ⟨b, 6, none⟩ = some (.int .u64 (t.entry : Int)) :=
  ⟨cell_of_row W b 0 _ _ _ h, cell_of_row W b 1 _ _ _ h, cell_of_row W b 2 _ _ _ h, cell_of_row W b 3 _ _ _ h, cell_of_row W b 4 _ _ _ h, cell_of_row W b 5 _ _ _ h, cell_of_row W b 6 _ _ _ h⟩
theorem ToldBox.new (w : World) (t : ToldH) : ToldBox (w.alloc (.cells t.cells 49)) w.heap.size t := heap_alloc_new w _

def bareH (t : ToldH) : Bool := decide (t.sn + t.mn + t.nn = 0) && decide (t.entry = 0)
set_option maxHeartbeats 1000000 in
theorem tl_bare (w : World) (t : ToldH) (hs : t.sn + t.mn + t.nn ≤ 9223372036854775807) :
    Calls Tryz.prog 46 #[.agg t.cells] w fun e w' => e = .returned (.bool (bareH t)) ∧ Below w.heap.size w w' := by
  have w1 : IntKind.i64.wrap ((t.sn : Int) + t.mn) = (t.sn : Int) + t.mn := IntWalk.i64_in _ (by omega)
  have w2 : IntKind.i64.wrap ((t.sn : Int) + t.mn + t.nn) = (t.sn : Int) + t.mn + t.nn := IntWalk.i64_in _ (by omega)
  obtain ⟨x0, x1, x2, x3, x4, x5, x6⟩ := (ToldBox.new w t).at
  have hb := (Below.refl w.heap.size w).alloc (Nat.le_refl _) (.cells t.cells 49)
  have HB := hid hb
  clear hb
  unfold bareH
  show Calls Tryz.prog 46 #[.agg #[.int .i64 t.ph, .string (mkS t.img), .int .i64 t.er, .slice t.sp t.sn t.sc, .slice t.mp t.mn t.mc, .slice t.np t.nn t.nc, .int .u64 (t.entry : Int)]] w _
  obtain ⟨W, hW⟩ : ∃ W, W = w.alloc (.cells t.cells 49) := ⟨_, rfl⟩
  by_cases h1 : t.sn + t.mn + t.nn = 0
  · have e1 : ((t.sn : Int) + t.mn + t.nn == 0) = true := by rw [beq_iff_eq]; omega
    have e2 : decide (t.sn + t.mn + t.nn = 0) = true := decide_eq_true h1
    rw [e2]
    have e3 : ((t.entry : Int) == 0) = decide (t.entry = 0) := by
      by_cases h : t.entry = 0
      · rw [h]; rfl
      · rw [decide_eq_false h, beq_eq_false_iff_ne]; omega
    clear h1 e2
    go_enter Tryz.func46, Tryz.ntmps46
    go_wp2_with fail
    go_ret
    exact ⟨by simp, HB.out⟩
  · have e1 : ((t.sn : Int) + t.mn + t.nn == 0) = false := by rw [beq_eq_false_iff_ne]; omega
    have e2 : decide (t.sn + t.mn + t.nn = 0) = false := decide_eq_false h1
    rw [e2, Bool.false_and]
    clear h1 e2
    go_enter Tryz.func46, Tryz.ntmps46
    go_wp2_with fail
    go_ret
    exact ⟨rfl, HB.out⟩

/-- What stands while a told value is tried: its box. -/
structure TlIn (w W : World) (b : Nat) (t : ToldH) : Prop where
  box : ToldBox W b t
  bel : Below w.heap.size w W
theorem TlIn.below {w W W' : World} {b : Nat} {t : ToldH} (h : TlIn w W b t) (hb : Below W.heap.size W W') : TlIn w W' b t := ⟨h.box.below hb, h.bel.trans (hb.mono h.bel.size)⟩
theorem TlIn.new (w : World) (t : ToldH) : TlIn w (w.alloc (.cells t.cells 49)) w.heap.size t := ⟨ToldBox.new w t, (Below.refl _ _).alloc (Nat.le_refl _) _⟩
theorem TlIn.drew {w W : World} {b : Nat} {t : ToldH} (h : TlIn w W b t) : TlIn w W.drew b t := ⟨h.box, ⟨h.bel.os, h.bel.tape, h.bel.output, h.bel.size, h.bel.block⟩⟩

def mayFH (t : ToldH) : Bool := bareH t && inB2 t.ph 0 255 && inB2 t.er 1 255 && decide (t.img.length ≤ 65535)
set_option maxHeartbeats 2000000 in
theorem tl_may_fault (w : World) (t : ToldH) (hs : t.sn + t.mn + t.nn ≤ 9223372036854775807) (her : t.er ≠ 0) :
    Calls Tryz.prog 14 #[.agg t.cells] w fun e w' => e = .returned (.bool (mayFH t)) ∧ Below w.heap.size w w' := by
  have hn : (t.er != 0) = true := by unfold bne; rw [beq_eq_false_iff_ne.2 her]; rfl
  have HI := hid (TlIn.new w t)
  have HS := hid hs
  clear hs her
  obtain ⟨b1, hb1⟩ : ∃ b, b = bareH t := ⟨_, rfl⟩
  obtain ⟨b2, hb2⟩ : ∃ b, b = inB2 t.ph 0 255 := ⟨_, rfl⟩
  obtain ⟨b3, hb3⟩ : ∃ b, b = inB2 t.er 1 255 := ⟨_, rfl⟩
  unfold mayFH
  rw [← hb1, ← hb2, ← hb3]
  have H1 := hid (fun W => show Calls Tryz.prog 46 #[.agg #[.int .i64 t.ph, .string (mkS t.img), .int .i64 t.er, .slice t.sp t.sn t.sc, .slice t.mp t.mn t.mc, .slice t.np t.nn t.nc, .int .u64 (t.entry : Int)]] W fun e w' => e = .returned (.bool b1) ∧ Below W.heap.size W w' from by have := tl_bare W t HS.out; rw [← hb1] at this; exact this)
  have H2 := hid (fun W => by have := tl_within W t.ph 0 255; rwa [← hb2] at this)
  have H3 := hid (fun W => by have := tl_within W t.er 1 255; rwa [← hb3] at this)
  clear hb1 hb2 hb3
  show Calls Tryz.prog 14 #[.agg #[.int .i64 t.ph, .string (mkS t.img), .int .i64 t.er, .slice t.sp t.sn t.sc, .slice t.mp t.mn t.mc, .slice t.np t.nn t.nc, .int .u64 (t.entry : Int)]] w _
  have key : ∀ b1 b2 b3 : Bool, (b1 = false ∨ (b1 = true ∧ b2 = false) ∨ (b1 = true ∧ b2 = true ∧ b3 = false) ∨ (b1 = true ∧ b2 = true ∧ b3 = true)) := by decide
  rcases key b1 b2 b3 with rfl | ⟨rfl, rfl⟩ | ⟨rfl, rfl, rfl⟩ | ⟨rfl, rfl, rfl⟩
  all_goals
    have hi := HI.out
    obtain ⟨x0, x1, x2, x3, x4, x5, x6⟩ := hi.box.at
    clear hi
    go_enter Tryz.func14, Tryz.ntmps14
    go_upto_region 2 with fail
    clear x0 x1 x2 x3 x4 x5 x6
    have hi := HI.out
    obtain ⟨x0, x1, x2, x3, x4, x5, x6⟩ := hi.box.at
    go_wp2_with
      (first
        | (go_at_call 46; (with_reducible refine (H1.out _).mono ?_); rintro e w1 ⟨rfl, hb⟩; have hi := hi.below hb; clear hb x0 x1 x2 x3 x4 x5 x6; obtain ⟨x0, x1, x2, x3, x4, x5, x6⟩ := hi.box.at)
        | (go_at_call 47; (with_reducible refine (H2.out _).mono ?_); rintro e w1 ⟨rfl, hb⟩; have hi := hi.below hb; clear hb x0 x1 x2 x3 x4 x5 x6; obtain ⟨x0, x1, x2, x3, x4, x5, x6⟩ := hi.box.at)
        | (go_at_call 47; (with_reducible refine (H3.out _).mono ?_); rintro e w1 ⟨rfl, hb⟩; have hi := hi.below hb; clear hb x0 x1 x2 x3 x4 x5 x6; obtain ⟨x0, x1, x2, x3, x4, x5, x6⟩ := hi.box.at)
        | fail "no call")
    have hb := hid hi.bel
    clear hi x0 x1 x2 x3 x4 x5 x6
    go_ret
    exact ⟨by first | (simp; done) | (simp; omega), hb.out⟩

/-- A new writer, and its box. -/
theorem writer_new (w : World) : Wr ((w.alloc (.cells #[.slice none 0 0] 59)).alloc (.cells #[.pointer (some ⟨w.heap.size, 0, none⟩)] 57)) w.heap.size w.heap.size (.slice none 0 0) [] ∧
    ((w.alloc (.cells #[.slice none 0 0] 59)).alloc (.cells #[.pointer (some ⟨w.heap.size, 0, none⟩)] 57)).heap[w.heap.size + 1]? = some (.cells #[.pointer (some ⟨w.heap.size, 0, none⟩)] 57 (0, 0)) := by
  have e1 : (w.alloc (.cells #[.slice none 0 0] 59)).heap.size = w.heap.size + 1 := by simp
  have r1 := heap_alloc_new w (.cells #[.slice none 0 0] 59)
  generalize w.alloc (.cells #[.slice none 0 0] 59) = w1 at e1 r1 ⊢
  have b2 : Below w1.heap.size w1 (w1.alloc (.cells #[.pointer (some ⟨w.heap.size, 0, none⟩)] 57)) := (Below.refl _ _).alloc (Nat.le_refl _) _
  have r2 := heap_alloc_new w1 (.cells #[.pointer (some ⟨w.heap.size, 0, none⟩)] 57)
  rw [e1] at r2
  exact ⟨⟨(b2.block _ (by omega)).trans r1, OB.nil _ _ _, by simp [Value.ownBlock]⟩, r2⟩

/-- A literal of bytes is laid into a writer. -/
theorem writer_lit {W : World} {c B : Nat} {v : Value} {xs : List UInt8} (h : Wr W c B v xs) (hB : B ≤ W.heap.size) (l : List UInt8) (hl : l.length ≤ 140737488355328) :
    Wr ((W.setCell ⟨c, 0, none⟩ (.slice (some ⟨W.heap.size, 0, none⟩) l.length l.length)).alloc (.cells (u8s l).toArray 5)) c B (.slice (some ⟨W.heap.size, 0, none⟩) l.length l.length) l ∧
    W.grownBy ((W.setCell ⟨c, 0, none⟩ (.slice (some ⟨W.heap.size, 0, none⟩) l.length l.length)).alloc (.cells (u8s l).toArray 5)) (some c) := by
  have hc := h.lt
  have e1 : (W.setCell ⟨c, 0, none⟩ (.slice (some ⟨W.heap.size, 0, none⟩) l.length l.length)).heap.size = W.heap.size := by simp [World.setCell]
  have r1 := heap_setCell_same W c 0 _ _ (.slice (some ⟨W.heap.size, 0, none⟩) l.length l.length) h.box
  have g1 := grownBy_setB W c 0 (.slice (some ⟨W.heap.size, 0, none⟩) l.length l.length)
  generalize W.setCell ⟨c, 0, none⟩ (.slice (some ⟨W.heap.size, 0, none⟩) l.length l.length) = W1 at e1 r1 g1 ⊢
  have b1 : Below W1.heap.size W1 (W1.alloc (.cells (u8s l).toArray 5)) := (Below.refl _ _).alloc (Nat.le_refl _) _
  have o1 := OB.laid W1 (e := 5) l hl
  rw [e1] at o1
  refine ⟨⟨(b1.block c (by omega)).trans r1, o1.base hB, ?_⟩, grownBy_tr g1 (Below.all b1 _)⟩
  show (some W.heap.size : Option Nat) ≠ some c
  intro e
  have := Option.some.inj e
  omega

set_option maxHeartbeats 2000000 in
theorem tl_bytes_fault (w : World) (t : ToldH) (hs : t.sn + t.mn + t.nn ≤ 9223372036854775807) (her : t.er ≠ 0) (hm : mayFH t = true) :
    Calls Tryz.prog 16 #[.agg t.cells] w fun e w' => ∃ v, e = .returned (.tuple #[v, .int .i64 0]) ∧ OB w' w.heap.size 5 v (faultB t.ph t.er ++ nmB t.img) ∧ Below w.heap.size w w' := by
  have hn : (t.er != 0) = true := by unfold bne; rw [beq_eq_false_iff_ne.2 her]; rfl
  have HI := hid (TlIn.new w t)
  have HM := hid (fun W => show Calls Tryz.prog 14 #[.agg #[.int .i64 t.ph, .string (mkS t.img), .int .i64 t.er, .slice t.sp t.sn t.sc, .slice t.mp t.mn t.mc, .slice t.np t.nn t.nc, .int .u64 (t.entry : Int)]] W fun e w' => e = .returned (.bool true) ∧ Below W.heap.size W w' from by have := tl_may_fault W t hs her; rw [hm] at this; exact this)
  have himg : t.img.length ≤ 65535 := by unfold mayFH at hm; simp at hm; exact hm.2
  clear hs her hm
  show Calls Tryz.prog 16 #[.agg #[.int .i64 t.ph, .string (mkS t.img), .int .i64 t.er, .slice t.sp t.sn t.sc, .slice t.mp t.mn t.mc, .slice t.np t.nn t.nc, .int .u64 (t.entry : Int)]] w _
  have hi := HI.out
  obtain ⟨x0, x1, x2, x3, x4, x5, x6⟩ := hi.box.at
  clear hi
  go_enter Tryz.func16, Tryz.ntmps16
  go_wp2_with fail
  refine (HM.out _).mono ?_
  rintro e w1 ⟨rfl, hb1⟩
  have hi1 := HI.out.below hb1
  clear hb1 x0 x1 x2 x3 x4 x5 x6
  obtain ⟨x0, x1, x2, x3, x4, x5, x6⟩ := hi1.box.at
  have H1 := hid hi1
  clear hi1
  go_upto_region 4 with fail
  obtain ⟨-, hb2, hs2⟩ := alloc2 w1 (.cells #[.slice none 0 0] 59) (.cells #[.pointer (some ⟨w1.heap.size, 0, none⟩)] 57)
  have hw2 := writer_new w1
  generalize ((w1.alloc (.cells #[.slice none 0 0] 59)).alloc (.cells #[.pointer (some ⟨w1.heap.size, 0, none⟩)] 57)) = W2 at hb2 hs2 hw2 ⊢
  clear x0 x1 x2 x3 x4 x5 x6
  obtain ⟨x0, x1, x2, x3, x4, x5, x6⟩ := (H1.out.below hb2).box.at
  obtain ⟨hw2, hk2⟩ := hw2
  have k0 : W2.cell? ⟨w1.heap.size + 1, 0, none⟩ = some (.pointer (some ⟨w1.heap.size, 0, none⟩)) := cell_of_row _ _ 0 _ _ _ hk2
  have hv8 : ∀ x : Int, IntKind.u8.wrap x = ((UInt8.ofNat (x % 256).toNat).toNat : Int) := fun x => by
    show x % 256 = _
    simp; omega
  have v1 := hv8 t.ph
  have v2 := hv8 t.er
  obtain ⟨y1, hy1⟩ : ∃ y, y = UInt8.ofNat (t.ph % 256).toNat := ⟨_, rfl⟩
  obtain ⟨y2, hy2⟩ : ∃ y, y = UInt8.ofNat (t.er % 256).toNat := ⟨_, rfl⟩
  rw [← hy1] at v1
  rw [← hy2] at v2
  have z0 := hw2.cell.1
  have zf := hw2.cell.2
  have H2 := hid (And.intro (H1.out.below hb2) (And.intro hb2 (And.intro hw2 (And.intro hk2 (And.intro hy1 hy2)))))
  clear hb2 hw2 hk2 hv8 hy1 hy2
  go_upto_region 6 with fail
  obtain ⟨hw3, hg3⟩ := writer_lit H2.out.2.2.1 (by omega) [70, y1, y2] (by simp)
  have hW3 : ((W2.setCell ⟨w1.heap.size, 0, none⟩ (.slice (some ⟨w1.heap.size + 1 + 1, 0, none⟩) 3 3)).alloc (.cells #[.int .u8 70, .int .u8 (y1.toNat : Int), .int .u8 (y2.toNat : Int)] 5)) = ((W2.setCell ⟨w1.heap.size, 0, none⟩ (.slice (some ⟨W2.heap.size, 0, none⟩) 3 3)).alloc (.cells (u8s [70, y1, y2]).toArray 5)) := by rw [hs2]; rfl
  rw [hW3]
  have hw3 : Wr ((W2.setCell ⟨w1.heap.size, 0, none⟩ (.slice (some ⟨W2.heap.size, 0, none⟩) 3 3)).alloc (.cells (u8s [70, y1, y2]).toArray 5)) w1.heap.size w1.heap.size (.slice (some ⟨W2.heap.size, 0, none⟩) 3 3) [70, y1, y2] := hw3
  have hg3 : W2.grownBy ((W2.setCell ⟨w1.heap.size, 0, none⟩ (.slice (some ⟨W2.heap.size, 0, none⟩) 3 3)).alloc (.cells (u8s [70, y1, y2]).toArray 5)) (some w1.heap.size) := hg3
  generalize ((W2.setCell ⟨w1.heap.size, 0, none⟩ (.slice (some ⟨W2.heap.size, 0, none⟩) 3 3)).alloc (.cells (u8s [70, y1, y2]).toArray 5)) = W3 at hw3 hg3 ⊢
  have hbl := H2.out.1.box.lt
  have hxl := H1.out.box.lt
  have hx3 : ToldBox W3 w.heap.size t := (hg3.block _ hbl (fun e => by have := Option.some.inj e; omega)).trans H2.out.1.box
  have hk3 := (hg3.block _ (Array.getElem?_eq_some_iff.1 H2.out.2.2.2.1).1 (fun e => by have := Option.some.inj e; omega)).trans H2.out.2.2.2.1
  have hb3 : Below w1.heap.size w1 W3 := Below.put H2.out.2.1 (Nat.le_refl _) (Nat.le_refl _) hg3
  have hs3 := hg3.size
  have hob : (Value.slice (some ⟨W2.heap.size, 0, none⟩) 3 3).ownBlock = some W2.heap.size := rfl
  clear hW3 x0 x1 x2 x3 x4 x5 x6 k0 z0 zf
  obtain ⟨x0, x1, x2, x3, x4, x5, x6⟩ := hx3.at
  have k0 : W3.cell? ⟨w1.heap.size + 1, 0, none⟩ = some (.pointer (some ⟨w1.heap.size, 0, none⟩)) := cell_of_row _ _ 0 _ _ _ hk3
  have H3 := hid (And.intro hw3 (And.intro hk3 (And.intro hb3 hob)))
  clear hw3 hk3 hb3 hx3 hg3 hob
  go_wp2_with fail
  refine (w_name W3 w1.heap.size w1.heap.size _ [70, y1, y2] t.img H3.out.1 (by simp; omega) H3.out.2.2.1.size).mono ?_
  rintro e w4 ⟨rfl, v4, hwr, hwo⟩
  have hb4 : Below w1.heap.size w1 w4 := H3.out.2.2.1.trans (hwo.below (Nat.le_refl _) H3.out.2.2.1.size (fun k hk => by rw [H3.out.2.2.2] at hk; have := Option.some.inj hk; omega))
  have hk4 := hwo.box H3.out.2.1 (by omega) (by rw [H3.out.2.2.2]; intro e; have := Option.some.inj e; omega)
  obtain ⟨p4, n4, c4, hv4⟩ := OB.form3 hwr.own
  subst hv4
  clear x0 x1 x2 x3 x4 x5 x6 k0
  have k0 : w4.cell? ⟨w1.heap.size + 1, 0, none⟩ = some (.pointer (some ⟨w1.heap.size, 0, none⟩)) := cell_of_row _ _ 0 _ _ _ hk4
  have z0 := hwr.cell.1
  have H4 := hid (And.intro hwr hb4)
  clear hwr hwo hb4 hk4
  go_wp2_with fail
  refine bodyPost_ret (v := .tuple #[.slice p4 n4 c4, .int .i64 0]) (by simp [results, Tryz.results16, go_sem]) rfl ?_
  refine ⟨_, rfl, ?_, H1.out.bel.trans (H4.out.2.mono H1.out.bel.size)⟩
  have h1 := H4.out.1.own
  rw [H2.out.2.2.2.2.1, H2.out.2.2.2.2.2] at h1
  exact h1.base H1.out.bel.size
end Go.Proofs.YtfkpbgookilhjaaGreatDoor
