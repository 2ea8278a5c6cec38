/- script.ToldOf of what is linked. -/
import Derived.Test.YtfkpbgookilhjaaGreatDoorZScRu
import Derived.Test.YtfkpbgookilhjaaGreatDoorZScU
import Derived.Test.YtfkpbgookilhjaaGreatDoorZScTb
namespace Go.Proofs.YtfkpbgookilhjaaGreatDoor
set_option linter.unusedSimpArgs false
set_option linter.unusedVariables false
open Go.RowKit

theorem badSV_m (s : SeatV) : badSV s = badS s.m := rfl
theorem badPV_m {w : World} {s : PieceV} (h : BigBS w s.p s.n s.cap s.bytes) : badPV s = badP s.m := by
  unfold badPV badP PieceV.m
  rw [h.1]
theorem any_map' {α β : Type} {f : α → β} {p : α → Bool} {q : β → Bool} {l : List α} (h : ∀ x ∈ l, p x = q (f x)) : l.any p = (l.map f).any q := by
  induction l with
  | nil => rfl
  | cons x l ih => rw [List.any_cons, List.map_cons, List.any_cons, h x (by simp), ih fun y hy => h y (by simp [hy])]
theorem mayLV_m {w : World} {t : ToldV} (h : ToldAt w t) : mayLV t = mayLinked t.m := by
  have h1 : t.seats.any badSV = (t.seats.map SeatV.m).any badS := any_map' fun _ _ => rfl
  have h2 : t.mem.any badPV = (t.mem.map PieceV.m).any badP := any_map' fun x hx => badPV_m (h.bytes x hx)
  have h3 : sumS t.seats = ((t.seats.map SeatV.m).map sizS).sum := by unfold sumS; rw [List.map_map]; rfl
  have h4 : sumP t.mem = ((t.mem.map PieceV.m).map sizP).sum := by
    unfold sumP; rw [List.map_map]
    congr 1
    exact List.map_congr_left fun x hx => by show 13 + x.n = 13 + x.bytes.length; rw [(h.bytes x hx).1]
  unfold mayLV mayLinked headT ToldV.m allV allT
  dsimp only
  rw [h1, h2, h3, h4, List.length_map, List.length_map]

/-- A row that holds no byte lies apart from the cursor's bytes. -/
def NoByte (C : Array Value) : Prop := ∀ (i : Nat) (x : Int), C[i]? ≠ some (Value.int .u8 x)
theorem noByte7 (a : Int) (s : List UInt8) (b : Int) (p1 p2 p3 : Option Addr) (n1 c1 n2 c2 n3 c3 : Nat) (d : Int) : NoByte #[.int .i64 a, .string (mkS s), .int .i64 b, .slice p1 n1 c1, .slice p2 n2 c2, .slice p3 n3 c3, .int .u64 d] := by
  intro i x
  match i with
  | 0 | 1 | 2 | 3 | 4 | 5 | 6 => simp
  | n + 7 => simp
theorem RdAt.putX {W W' : World} {r c X : Nat} {l : List UInt8} {k : Nat} {C : Array Value} {t : TypeId} {fr : Nat × Nat} (h : RdAt W r c l k) (hX : W.heap[X]? = some (.cells C t fr)) (hC : NoByte C) (hr : r ≠ X) (hc : c ≠ X) (hg : W.grownBy W' (some X)) : RdAt W' r c l k := by
  refine ⟨(hg.block r (Array.getElem?_eq_some_iff.1 h.box).1 (fun e => by cases e; exact hr rfl)).trans h.box, ?_, h.ne⟩
  have hcl := h.cur.lt
  obtain ⟨v, hv, hvc, hk, hcc⟩ := h.cur
  refine ⟨v, hv.of_block (fun b hb hlt => hg.block b hlt (fun e => ?_)), hvc, hk, (hg.block c hcl (fun e => by cases e; exact hc rfl)).trans hcc⟩
  obtain rfl := Option.some.inj e
  obtain ⟨p, cap, rfl, g1, g2, g3⟩ := hv
  have hpos := inBlk_pos hb
  obtain ⟨b', off, rfl, hcl2⟩ := g3 (List.length_pos_iff.1 hpos)
  have h0 := hcl2 0 _ (List.getElem?_eq_getElem hpos)
  have e2 : b' = b := hb.2
  rw [e2] at h0
  unfold World.cell? at h0
  rw [hX] at h0
  exact hC _ _ (by simpa using h0)
theorem OfIn.putX {w W W' : World} {X c r K : Nat} {l : List UInt8} {k : Nat} {y : List UInt8} {Z Z' : Array Value} {t : TypeId} (h : OfIn w W X c r K l k y Z t) (o : OfOrd w X c r K) (hZ : NoByte Z) (hg : W.grownBy W' (some X)) (hr : W'.heap[X]? = some (.cells Z' t (0, 0))) : OfIn w W' X c r K l k y Z' t := by
  have := o.a; have := o.b; have := o.d; have := o.e
  exact ⟨h.rd.putX h.res hZ (by omega) (by omega) hg, h.left, Below.put h.bel (Nat.le_refl _) o.a hg, h.ka.put (by omega) hg, hr⟩

/-- What reads in new blocks behind B stays, where a lower block is written. -/
theorem OwnL.putX {α : Type} {S : Shape α} (hS : S.Ok) {e : TypeId} {size B X : Nat} {W W' : World} {o : Value} {done : List α} (h : OwnL S e size B W o done) (hX : X < B) (hg : W.grownBy W' (some X)) : OwnL S e size B W' o done := h.keep hS hX hg

/-- All was read: the told value stands in X. -/
structure OfT (w W : World) (X c r K : Nat) (l : List UInt8) (V : ToldV) : Prop where
  i : OfIn w W X c r K l l.length [] V.h.cells 49
  at_ : ToldAt W V
theorem OfT.below {w W W' : World} {X c r K : Nat} {l : List UInt8} {V : ToldV} (h : OfT w W X c r K l V) (hb : Below W.heap.size W W') : OfT w W' X c r K l V := ⟨h.i.below hb, h.at_.below hb⟩
theorem OfT.drew {w W : World} {X c r K : Nat} {l : List UInt8} {V : ToldV} (h : OfT w W X c r K l V) : OfT w W.drew X c r K l V := h.below ⟨rfl, rfl, rfl, Nat.le_refl _, fun _ _ => rfl⟩
theorem OfT.mk' {w W : World} {X c r K : Nat} {l : List UInt8} {k : Nat} {V : ToldV} (h : OfIn w W X c r K l k [] V.h.cells 49) (hat : ToldAt W V) : OfT w W X c r K l V := by
  have hk : k = l.length := by
    have h1 := congrArg List.length h.left
    have h2 := h.rd.cur.le
    rw [List.length_drop] at h1
    simp at h1; omega
  subst hk
  exact ⟨h, hat⟩
theorem OfT.zs {w W : World} {X c r K : Nat} {l : List UInt8} {V : ToldV} (h : OfT w W X c r K l V) :
    W.cell? ⟨X, 0, none⟩ = some (.int .i64 V.ph) ∧ W.cell? ⟨X, 1, none⟩ = some (.string (mkS V.img)) ∧ W.cell? ⟨X, 2, none⟩ = some (.int .i64 V.er) ∧ W.cell? ⟨X, 3, none⟩ = some (.slice V.sp V.seats.length V.sc) ∧ W.cell? ⟨X, 4, none⟩ = some (.slice V.mp V.mem.length V.mc) ∧ W.cell? ⟨X, 5, none⟩ = some (.slice V.np V.inits.length V.nc) ∧ W.cell? ⟨X, 6, none⟩ = some (.int .u64 (V.entry : Int)) := ToldBox.atV h.i.res

set_option maxHeartbeats 4000000 in
set_option maxRecDepth 4000 in
theorem tl_of_linked (w : World) (p : Option Addr) (cap : Nat) (t : ToldM) (her : t.err = 0) (hm : mayLinked t = true) (hsl : ∀ s ∈ t.seats, s.slide < 2 ^ 64) (hat : ∀ s ∈ t.mem, s.at_ < 2 ^ 64) (hia : ∀ s ∈ t.inits, s.at_ < 2 ^ 64) (hen : t.entry < 2 ^ 64) (hb : BS w (.slice p t.enc.length cap) t.enc) :
    Calls Tryz.prog 18 #[.slice p t.enc.length cap] w fun e w' =>
      ∃ V : ToldV, e = .returned (.tuple #[.agg V.h.cells, .int .i64 0]) ∧ V.m = t ∧ ToldAt w' V ∧ Below w.heap.size w w' := by
  obtain ⟨l, hl⟩ : ∃ l, l = t.enc := ⟨_, rfl⟩
  rw [← hl] at hb ⊢
  have hl2 : l = lowB 76 1 ++ (lowB t.seats.length 2 ++ (t.seats.flatMap SeatM.enc ++ (lowB t.mem.length 4 ++ (t.mem.flatMap PieceM.enc ++ (lowB t.inits.length 4 ++ (t.inits.flatMap InitM.enc ++ (lowB t.entry 8 ++ []))))))) := by
    rw [hl]; unfold ToldM.enc
    rw [if_pos her]
    simp only [List.append_assoc, List.append_nil]
    rfl
  have hm0 := hm
  unfold mayLinked at hm
  simp only [Bool.and_eq_true, decide_eq_true_eq, Bool.not_eq_true', List.isEmpty_iff] at hm
  obtain ⟨⟨⟨⟨⟨⟨⟨⟨a1, a2⟩, a3⟩, a4⟩, a5⟩, a6⟩, a7⟩, a8⟩, a9⟩ := hm
  have gs : ∀ m ∈ t.seats, m.path.length ≤ 65535 ∧ m.deps.length ≤ 65535 ∧ m.deps.any badD = false ∧ m.slide < 2 ^ 64 := fun m hx => by
    have h1 := List.any_eq_false.1 a6 m hx
    have h2 := not_badS (s := ⟨m.path, m.slide, none, 0, m.deps⟩) (by show badS m = false; simpa using h1)
    exact ⟨h2.1, h2.2.1, h2.2.2, hsl m hx⟩
  have gp : ∀ m ∈ t.mem, 0 ≤ m.prot ∧ m.prot ≤ 255 ∧ m.bytes.length ≤ 67108864 ∧ m.at_ < 2 ^ 64 := fun m hx => by
    have h1 := List.any_eq_false.1 a7 m hx
    have h2 := not_badP (s := ⟨m.at_, m.prot, none, m.bytes.length, 0, m.bytes⟩) (by show badP m = false; simpa using h1)
    exact ⟨h2.1, h2.2.1, h2.2.2, hat m hx⟩
  have gi : ∀ m ∈ t.inits, 0 ≤ m.image ∧ m.image ≤ 65535 ∧ m.at_ < 2 ^ 64 := fun m hx => by
    have h1 := List.any_eq_false.1 a9 m hx
    have h2 := not_badI (s := m) (by simpa using h1)
    exact ⟨h2.1, h2.2, hia m hx⟩
  obtain ⟨W0, hW0⟩ : ∃ W0, W0 = w.alloc (.cells #[.int .i64 0, .string ⟨#[]⟩, .int .i64 0, .slice none 0 0, .slice none 0 0, .slice none 0 0, .int .u64 0] 49) := ⟨_, rfl⟩
  have hb0 : Below w.heap.size w W0 := by rw [hW0]; exact (Below.refl _ _).alloc (Nat.le_refl _) _
  have hX0 : W0.heap[w.heap.size]? = some (.cells #[.int .i64 0, .string (mkS []), .int .i64 0, .slice none 0 0, .slice none 0 0, .slice none 0 0, .int .u64 0] 49 (0, 0)) := by rw [hW0]; exact heap_alloc_new w _
  have hs0 : W0.heap.size = w.heap.size + 1 := by rw [hW0]; simp
  have H0 := hid (And.intro (hb.below hb0) (And.intro hb0 (And.intro hX0 (And.intro hs0 (And.intro hl2 (And.intro gs (And.intro gp (And.intro gi (And.intro hen hm0)))))))))
  have HA := hid (And.intro a1 (And.intro a2 (And.intro a3 (And.intro a4 a5))))
  have HW := hid hW0.symm
  have HE := hid her
  clear hb hb0 hX0 hs0 hl hl2 hW0 gs gp gi a1 a2 a3 a4 a5 a6 a7 a8 a9 hm0 hsl hat hia hen her
  go_enter Tryz.func18, Tryz.ntmps18
  go_upto_region 1 with fail
  rw [HW.out]
  go_wp2_with fail
  refine (cur_new _ p l.length cap l false H0.out.1).mono ?_
  rintro e w1 ⟨c, rfl, hc, hcu, hb1⟩
  have H1 := hid (And.intro hc (And.intro hcu hb1))
  clear hc hcu hb1
  go_upto_region 2 with fail
  obtain ⟨W2, hW2⟩ : ∃ W2, W2 = ((w1.alloc (.cells #[.pointer (some ⟨c, 0, none⟩), .bool false] 74)).alloc (.cells #[.pointer (some ⟨w1.heap.size, 0, none⟩)] 70)) := ⟨_, rfl⟩
  have O := of_ord H0.out.2.1 H0.out.2.2.2.1 H1.out.1 H1.out.2.1
  have hi2 : OfIn w W2 w.heap.size c w1.heap.size (w1.heap.size + 1) l 0 l #[.int .i64 0, .string (mkS []), .int .i64 0, .slice none 0 0, .slice none 0 0, .slice none 0 0, .int .u64 0] 49 := by
    rw [hW2]; exact of_start H0.out.2.1 H0.out.2.2.2.1 H0.out.2.2.1 H1.out.1 H1.out.2.1 H1.out.2.2
  rw [← hW2]
  clear hW2
  have k0 := hi2.ka.cell
  obtain ⟨x0, x1⟩ := hi2.rd.cell
  have H2 := hid hi2
  clear hi2
  go_wp2_with fail
  refine (rd_number c _ l _ 0 76 1 1 (by simp) rfl H2.out.rd.cur H0.out.2.2.2.2.1 (by omega)).mono ?_
  rintro e w3 ⟨rfl, hc3, hd3, hg3⟩
  have hi := H2.out.next O (H2.out.rd.next hc3 hg3) hd3 hg3
  clear hc3 hd3 hg3 k0 x0 x1
  have k0 := hi.ka.cell
  have H3 := hid hi
  clear hi
  go_wp2_with fail
  have hXl := (Array.getElem?_eq_some_iff.1 H3.out.res).1
  have hcl := H3.out.rd.cur.lt
  have hKc : w1.heap.size + 1 ≠ c := by have := O.d; have := O.e; omega
  refine (read_seats (w1.heap.size + 1) w1.heap.size c w3 l _ t.seats _ H3.out.ka hKc H3.out.rd H3.out.left HA.out.2.2.1 H0.out.2.2.2.2.2.1).mono ?_
  rintro e w4 ⟨o4, d4, rfl, hd4, hr4⟩
  obtain ⟨p4, c4, ho4⟩ := ownsRow_form hr4.own.own
  subst ho4
  have hi := H3.out.next O hr4.rd hr4.left hr4.by_
  have hw4 := hr4.own
  have hs34 := hr4.by_.size
  clear hr4 k0
  have z3 : w4.cell? ⟨w.heap.size, 3, none⟩ = some (.slice none 0 0) := cell_of_row _ _ 3 _ _ _ hi.res
  have zf := frozen_of_row w4 w.heap.size 3 _ _ hi.res
  have H4 := hid (And.intro hi (And.intro hw4 hd4))
  clear hi hw4 hd4
  go_upto_region 11 with fail
  obtain ⟨hg5, hrow5⟩ := put1 (i := 3) (.slice p4 d4.length c4) H4.out.1.res
  have hi5 := H4.out.1.putX O (noByte7 0 [] 0 none none none 0 0 0 0 0 0 0) hg5 hrow5
  have hw5 := H4.out.2.1.putX seatS_ok hXl hg5
  have hs5 := hg5.size
  have hi5 : OfIn w (w4.setCell ⟨w.heap.size, 3, none⟩ (.slice p4 d4.length c4)) w.heap.size c w1.heap.size (w1.heap.size + 1) l _ _ #[.int .i64 0, .string (mkS []), .int .i64 0, .slice p4 d4.length c4, .slice none 0 0, .slice none 0 0, .int .u64 0] 49 := hi5
  generalize w4.setCell ⟨w.heap.size, 3, none⟩ (.slice p4 d4.length c4) = W5 at hi5 hw5 hs5 ⊢
  clear hg5 hrow5 z3 zf
  have k0 := hi5.ka.cell
  have H5 := hid (And.intro hi5 hw5)
  clear hi5 hw5
  go_wp2_with fail
  refine (read_pieces (w1.heap.size + 1) w1.heap.size c W5 l _ t.mem _ H5.out.1.ka hKc H5.out.1.rd H5.out.1.left HA.out.2.2.2.1 H0.out.2.2.2.2.2.2.1).mono ?_
  rintro e w6 ⟨o6, d6, rfl, hd6, hr6⟩
  obtain ⟨p6, c6, ho6⟩ := ownsRow_form hr6.own.own
  subst ho6
  have hi := H5.out.1.next O hr6.rd hr6.left hr6.by_
  have hw6 := H5.out.2.keep seatS_ok hcl hr6.by_
  have hp6 := hr6.own
  have hs56 := hr6.by_.size
  clear hr6 k0
  have z4 : w6.cell? ⟨w.heap.size, 4, none⟩ = some (.slice none 0 0) := cell_of_row _ _ 4 _ _ _ hi.res
  have zf := frozen_of_row w6 w.heap.size 4 _ _ hi.res
  have H6 := hid (And.intro hi (And.intro hw6 (And.intro hp6 hd6)))
  clear hi hw6 hp6 hd6
  go_upto_region 12 with fail
  obtain ⟨hg7, hrow7⟩ := put1 (i := 4) (.slice p6 d6.length c6) H6.out.1.res
  have hi7 := H6.out.1.putX O (noByte7 0 [] 0 p4 none none d4.length c4 0 0 0 0 0) hg7 hrow7
  have hw7 := H6.out.2.1.putX seatS_ok hXl hg7
  have hp7 := H6.out.2.2.1.putX pieceS_ok (by omega) hg7
  have hs7 := hg7.size
  have hi7 : OfIn w (w6.setCell ⟨w.heap.size, 4, none⟩ (.slice p6 d6.length c6)) w.heap.size c w1.heap.size (w1.heap.size + 1) l _ _ #[.int .i64 0, .string (mkS []), .int .i64 0, .slice p4 d4.length c4, .slice p6 d6.length c6, .slice none 0 0, .int .u64 0] 49 := hi7
  generalize w6.setCell ⟨w.heap.size, 4, none⟩ (.slice p6 d6.length c6) = W7 at hi7 hw7 hp7 hs7 ⊢
  clear hg7 hrow7 z4 zf
  have k0 := hi7.ka.cell
  have H7 := hid (And.intro hi7 (And.intro hw7 hp7))
  clear hi7 hw7 hp7
  go_wp2_with fail
  refine (read_inits (w1.heap.size + 1) w1.heap.size c W7 l _ t.inits _ H7.out.1.ka hKc H7.out.1.rd H7.out.1.left HA.out.2.2.2.2 H0.out.2.2.2.2.2.2.2.1).mono ?_
  rintro e w8 ⟨o8, d8, rfl, hd8, hr8⟩
  obtain ⟨p8, c8, ho8⟩ := ownsRow_form hr8.own.own
  subst ho8
  have hi := H7.out.1.next O hr8.rd hr8.left hr8.by_
  have hw8 := H7.out.2.1.keep seatS_ok hcl hr8.by_
  have hp8 := H7.out.2.2.keep pieceS_ok (by omega) hr8.by_
  have hn8 := hr8.own
  have hs78 := hr8.by_.size
  clear hr8 k0
  have z5 : w8.cell? ⟨w.heap.size, 5, none⟩ = some (.slice none 0 0) := cell_of_row _ _ 5 _ _ _ hi.res
  have zf := frozen_of_row w8 w.heap.size 5 _ _ hi.res
  have H8 := hid (And.intro hi (And.intro hw8 (And.intro hp8 (And.intro hn8 hd8))))
  clear hi hw8 hp8 hn8 hd8
  go_upto_region 13 with fail
  obtain ⟨hg9, hrow9⟩ := put1 (i := 5) (.slice p8 d8.length c8) H8.out.1.res
  have hi9 := H8.out.1.putX O (noByte7 0 [] 0 p4 p6 none d4.length c4 d6.length c6 0 0 0) hg9 hrow9
  have hw9 := H8.out.2.1.putX seatS_ok hXl hg9
  have hp9 := H8.out.2.2.1.putX pieceS_ok (by omega) hg9
  have hn9 := H8.out.2.2.2.1.putX initS_ok (by omega) hg9
  have hs9 := hg9.size
  have hi9 : OfIn w (w8.setCell ⟨w.heap.size, 5, none⟩ (.slice p8 d8.length c8)) w.heap.size c w1.heap.size (w1.heap.size + 1) l _ _ #[.int .i64 0, .string (mkS []), .int .i64 0, .slice p4 d4.length c4, .slice p6 d6.length c6, .slice p8 d8.length c8, .int .u64 0] 49 := hi9
  generalize w8.setCell ⟨w.heap.size, 5, none⟩ (.slice p8 d8.length c8) = W9 at hi9 hw9 hp9 hn9 hs9 ⊢
  clear hg9 hrow9 z5 zf
  have k0 := hi9.ka.cell
  obtain ⟨x0, x1⟩ := hi9.rd.cell
  have H9 := hid (And.intro hi9 (And.intro hw9 (And.intro hp9 hn9)))
  clear hi9 hw9 hp9 hn9
  go_wp2_with fail
  refine (rd_number c _ l _ _ t.entry 8 8 (by simp) rfl H9.out.1.rd.cur H9.out.1.left (Nat.lt_of_lt_of_eq H0.out.2.2.2.2.2.2.2.2.1 (by decide))).mono ?_
  rintro e w10 ⟨rfl, hc10, hd10, hg10⟩
  have hi := H9.out.1.next O (H9.out.1.rd.next hc10 hg10) hd10 hg10
  have hw10 := H9.out.2.1.keep seatS_ok hcl hg10
  have hp10 := H9.out.2.2.1.keep pieceS_ok (by omega) hg10
  have hn10 := H9.out.2.2.2.keep initS_ok (by omega) hg10
  have hs10 := hg10.size
  clear hc10 hd10 hg10 k0 x0 x1
  have z6 : w10.cell? ⟨w.heap.size, 6, none⟩ = some (.int .u64 0) := cell_of_row _ _ 6 _ _ _ hi.res
  have zf := frozen_of_row w10 w.heap.size 6 _ _ hi.res
  have H10 := hid (And.intro hi (And.intro hw10 (And.intro hp10 hn10)))
  clear hi hw10 hp10 hn10
  go_upto_region 14 with fail
  obtain ⟨hg11, hrow11⟩ := put1 (i := 6) (.int .u64 (t.entry : Int)) H10.out.1.res
  have hi11 := H10.out.1.putX O (noByte7 0 [] 0 p4 p6 p8 d4.length c4 d6.length c6 d8.length c8 0) hg11 hrow11
  have hw11 := H10.out.2.1.putX seatS_ok hXl hg11
  have hp11 := H10.out.2.2.1.putX pieceS_ok (by omega) hg11
  have hn11 := H10.out.2.2.2.putX initS_ok (by omega) hg11
  have hd8 := H8.out.2.2.2.2
  rw [List.map_id] at hd8
  have hVm : ToldV.m ⟨0, [], 0, p4, c4, d4, p6, c6, d6, p8, c8, d8, t.entry⟩ = t := by
    have key : ∀ (u : ToldM), u.phase = 0 → u.img = [] → u.err = 0 → ToldM.mk 0 [] 0 u.seats u.mem u.inits u.entry = u := by
      rintro ⟨a, b, d, e, f, g, h⟩ rfl rfl rfl
      rfl
    unfold ToldV.m
    dsimp only
    rw [H4.out.2.2, H6.out.2.2.2, hd8]
    exact key t HA.out.1 HA.out.2.1 HE.out
  have hat : ToldAt (w10.setCell ⟨w.heap.size, 6, none⟩ (.int .u64 (t.entry : Int))) ⟨0, [], 0, p4, c4, d4, p6, c6, d6, p8, c8, d8, t.entry⟩ := by
    have s1 := rows_of_own (cs := SeatV.cells) (k := 3) (by omega) seatsLen hw11.own
    have s2 := rows_of_own (cs := PieceV.cells) (k := 3) (by omega) piecesLen hp11.own
    have s3 := rows_of_own (cs := InitM.cells) (k := 2) (by omega) initsLen hn11.own
    refine ⟨s1.1, fun s hs => (hw11.each s hs).1, fun s hs => ?_, s2.1, fun s hs => ⟨?_, fun _ => (hp11.each s hs).1⟩, fun s hs => ?_, s3.1, fun s hs => ?_, H0.out.2.2.2.2.2.2.2.2.1⟩
    · exact (H0.out.2.2.2.2.2.1 s.m (by rw [← H4.out.2.2]; exact List.mem_map.2 ⟨s, hs, rfl⟩)).2.2.2
    · obtain ⟨a1, b1, he, -⟩ := (hp11.each s hs).1
      exact (Value.slice.inj he).2.1.symm
    · exact (H0.out.2.2.2.2.2.2.1 s.m (by rw [← H6.out.2.2.2]; exact List.mem_map.2 ⟨s, hs, rfl⟩)).2.2.2
    · exact (H0.out.2.2.2.2.2.2.2.1 s (by rw [← hd8]; exact hs)).2.2
  have hT : OfT w (w10.setCell ⟨w.heap.size, 6, none⟩ (.int .u64 (t.entry : Int))) w.heap.size c w1.heap.size (w1.heap.size + 1) l ⟨0, [], 0, p4, c4, d4, p6, c6, d6, p8, c8, d8, t.entry⟩ := OfT.mk' hi11 hat
  generalize w10.setCell ⟨w.heap.size, 6, none⟩ (.int .u64 (t.entry : Int)) = W11 at hT ⊢
  have hmay : ∀ W, ToldAt W ⟨0, [], 0, p4, c4, d4, p6, c6, d6, p8, c8, d8, t.entry⟩ → Calls Tryz.prog 14 #[.agg #[.int .i64 0, .string (mkS []), .int .i64 0, .slice p4 d4.length c4, .slice p6 d6.length c6, .slice p8 d8.length c8, .int .u64 (t.entry : Int)]] W fun e w' => e = .returned (.bool true) ∧ Below W.heap.size W w' := by
    intro W hW
    have h1 := tl_may_linked W _ hW rfl
    rw [mayLV_m hW, hVm, H0.out.2.2.2.2.2.2.2.2.2] at h1
    exact h1
  have HV := hid (And.intro hVm hmay)
  have HT := hid hT
  clear hg11 hrow11 hi11 hw11 hp11 hn11 hd8 hVm hat hT hmay z6 zf
  have hi := HT.out.drew
  go_region_held (fun W => W.cell? ⟨w1.heap.size + 1, 0, none⟩ = some (.pointer (some ⟨w1.heap.size, 0, none⟩)) ∧ W.cell? ⟨w.heap.size, 0, none⟩ = some (.int .i64 0) ∧ W.cell? ⟨w.heap.size, 1, none⟩ = some (.string (mkS [])) ∧ W.cell? ⟨w.heap.size, 2, none⟩ = some (.int .i64 0) ∧ W.cell? ⟨w.heap.size, 3, none⟩ = some (.slice p4 d4.length c4) ∧ W.cell? ⟨w.heap.size, 4, none⟩ = some (.slice p6 d6.length c6) ∧ W.cell? ⟨w.heap.size, 5, none⟩ = some (.slice p8 d8.length c8) ∧ W.cell? ⟨w.heap.size, 6, none⟩ = some (.int .u64 (t.entry : Int))) (exact ⟨hi.i.ka.cell, hi.zs⟩)
    (first
      | (go_at_call 14; (with_reducible refine (HV.out.2 _ hi.at_).mono ?_); rintro e w14 ⟨rfl, hb14⟩; have hi := hi.below hb14; clear hb14)
      | (go_at_call 42; (with_reducible refine (rd_end0 _ c _ l hi.i.rd).mono ?_); rintro e w15 ⟨rfl, hb15⟩; have hi := hi.below hb15; clear hb15)
      | fail "no call")
  all_goals
    have hE := hi
    clear hi
    obtain ⟨z0, z1, z2, z3, z4, z5, z6⟩ := hE.zs
    have hrow := hE.i.res
    have hrow : _ = some (Obj.cells #[.int .i64 0, .string (mkS []), .int .i64 0, .slice p4 d4.length c4, .slice p6 d6.length c6, .slice p8 d8.length c8, .int .u64 (t.entry : Int)] 49 (0, 0)) := hrow
    have q0 := setSelf hrow 0 (.int .i64 0) rfl
    have q1 := setSelf hrow 1 (.string (mkS [])) rfl
    have q2 := setSelf hrow 2 (.int .i64 0) rfl
    have q3 := setSelf hrow 3 (.slice p4 d4.length c4) rfl
    have q4 := setSelf hrow 4 (.slice p6 d6.length c6) rfl
    have q5 := setSelf hrow 5 (.slice p8 d8.length c8) rfl
    have q6 := setSelf hrow 6 (.int .u64 (t.entry : Int)) rfl
    have zf := fun i => frozen_of_row _ w.heap.size i _ _ hrow
    have HF := hid hE
    clear hE hrow
    go_wp2_with fail
    refine bodyPost_ret (v := .tuple #[.agg #[.int .i64 0, .string (mkS []), .int .i64 0, .slice p4 d4.length c4, .slice p6 d6.length c6, .slice p8 d8.length c8, .int .u64 (t.entry : Int)], .int .i64 0]) (by simp [results, Tryz.results18, go_sem, z0, z1, z2, z3, z4, z5, z6]) rfl ?_
    exact ⟨_, rfl, HV.out.1, HF.out.at_, HF.out.i.bel⟩
end Go.Proofs.YtfkpbgookilhjaaGreatDoor
