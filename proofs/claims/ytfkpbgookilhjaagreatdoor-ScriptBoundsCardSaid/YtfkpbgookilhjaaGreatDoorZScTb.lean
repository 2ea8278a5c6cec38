/- script.ToldBytes of what is linked. -/
import Derived.Test.YtfkpbgookilhjaaGreatDoorZScTp
import Derived.Test.YtfkpbgookilhjaaGreatDoorZScTw
namespace Go.Proofs.YtfkpbgookilhjaaGreatDoor
set_option linter.unusedSimpArgs false
set_option linter.unusedVariables false
open Go.RowKit

theorem flat_sum {α : Type} (f : α → List UInt8) (g : α → Nat) : ∀ l : List α, (∀ x ∈ l, (f x).length = g x) → (l.flatMap f).length = (l.map g).sum
  | [], _ => rfl
  | x :: l, h => by
    rw [List.flatMap_cons, List.length_append, h x (by simp), flat_sum f g l (fun y hy => h y (by simp [hy])), List.map_cons, List.sum_cons]
theorem encS_length (s : SeatV) : (encS s).length = sizSV s := by
  rw [encS_eq]
  simp only [List.length_append, nmB_length, lowB_length]
  rw [flat_sum encD (fun _ => 2) s.deps (fun d _ => encD_length d)]
  have : (s.deps.map (fun _ => 2)).sum = 2 * s.deps.length := by
    induction s.deps with
    | nil => rfl
    | cons a l ih => rw [List.map_cons, List.sum_cons, ih, List.length_cons]; omega
  rw [this]; unfold sizSV; omega
theorem initE_length (x : InitM) : (InitM.enc x).length = 10 := by unfold InitM.enc; simp only [List.length_append, lowB_length]

/-- What a told value that may be told gives: its bytes, how long they are. -/
theorem told_bounds {w : World} {t : ToldV} (h : ToldAt w t) (her : t.er = 0) (hm : mayLV t = true) :
    t.ph = 0 ∧ t.img = [] ∧ t.seats.length ≤ 65535 ∧ t.mem.length ≤ 65535 ∧ t.inits.length ≤ 1000000 ∧ (t.seats.flatMap encS).length + (t.mem.flatMap encP).length + (t.inits.flatMap InitM.enc).length ≤ 67108864 ∧
    (∀ s ∈ t.seats, IntsAt w (.slice s.p s.deps.length s.cap) s.deps ∧ s.slide < 2 ^ 64 ∧ badSV s = false) ∧ (∀ s ∈ t.mem, BS w (.slice s.p s.n s.cap) s.bytes ∧ s.at_ < 2 ^ 64 ∧ badPV s = false) ∧ (∀ s ∈ t.inits, s.at_ < 2 ^ 64 ∧ badI s = false) ∧
    t.m.enc = [76] ++ lowB t.seats.length 2 ++ t.seats.flatMap encS ++ lowB t.mem.length 4 ++ t.mem.flatMap encP ++ lowB t.inits.length 4 ++ t.inits.flatMap InitM.enc ++ lowB t.entry 8 := by
  unfold mayLV headT at hm
  simp only [Bool.and_eq_true, decide_eq_true_eq, Bool.not_eq_true', List.isEmpty_iff] at hm
  obtain ⟨⟨⟨⟨⟨⟨⟨⟨a1, a2⟩, a3⟩, a4⟩, a5⟩, a6⟩, a7⟩, a8⟩, a9⟩ := hm
  have hs : ∀ s ∈ t.seats, badSV s = false := fun s hs => by have := List.any_eq_false.1 a6 s hs; simpa using this
  have hp : ∀ s ∈ t.mem, badPV s = false := fun s hs => by have := List.any_eq_false.1 a7 s hs; simpa using this
  have hi : ∀ s ∈ t.inits, badI s = false := fun s hs => by have := List.any_eq_false.1 a9 s hs; simpa using this
  refine ⟨a1, a2, a3, a4, a5, ?_, fun s hx => ⟨h.deps s hx, h.slides s hx, hs s hx⟩, fun s hx => ⟨(h.bytes s hx).2 (by have := (not_badP (hp s hx)).2.2; omega), h.ats s hx, hp s hx⟩, fun s hx => ⟨h.begins s hx, hi s hx⟩, ?_⟩
  · have l1 := flat_sum encS sizSV t.seats (fun s _ => encS_length s)
    have l2 := flat_sum encP sizPV t.mem (fun s hx => by
      rw [encP_eq]; simp only [List.length_append, blB_length, lowB_length]
      have := (h.bytes s hx).1
      unfold sizPV; omega)
    have l3 := flat_sum InitM.enc (fun _ => 10) t.inits (fun s _ => initE_length s)
    have l4 : (t.inits.map (fun _ => 10)).sum = 10 * t.inits.length := by
      induction t.inits with
      | nil => rfl
      | cons a l ih => rw [List.map_cons, List.sum_cons, ih, List.length_cons]; omega
    unfold allV sumS sumP at a8
    omega
  · unfold ToldM.enc ToldV.m
    dsimp only
    rw [if_pos her, List.length_map, List.length_map, List.flatMap_map, List.flatMap_map]
    rfl

theorem tl_may_linked (w : World) (t : ToldV) (h : ToldAt w t) (her : t.er = 0) :
    Calls Tryz.prog 14 #[.agg t.h.cells] w fun e w' => e = .returned (.bool (mayLV t)) ∧ Below w.heap.size w w' := by
  by_cases hc : t.ph = 0 ∧ t.img = [] ∧ ¬ 65535 < t.seats.length ∧ ¬ 65535 < t.mem.length ∧ ¬ 1000000 < t.inits.length
  · obtain ⟨ph, img, er, sp, sc, seats, mp, mc, mem, np, nc, inits, entry⟩ := t
    dsimp only at hc her
    obtain ⟨rfl, rfl, h1, h2, h3⟩ := hc
    subst her
    have := tl_may_yes w sp sc seats mp mc mem np nc inits entry h h1 h2 h3
    have e : mayLV ⟨0, [], 0, sp, sc, seats, mp, mc, mem, np, nc, inits, entry⟩ = (!seats.any badSV && !mem.any badPV && decide (19 + 10 * inits.length + sumS seats + sumP mem ≤ 67108864) && !inits.any badI) := by
      unfold mayLV headT allV
      dsimp only
      rw [decide_eq_true (by omega : seats.length ≤ 65535), decide_eq_true (by omega : mem.length ≤ 65535), decide_eq_true (by omega : inits.length ≤ 1000000)]
      simp
    rw [e]
    exact this
  · exact tl_may_no w t h her hc
theorem ToldBox.atV {W : World} {b : Nat} {t : ToldV} (h : ToldBox W b t.h) :
    W.cell? ⟨b, 0, none⟩ = some (.int .i64 t.ph) ∧ W.cell? ⟨b, 1, none⟩ = some (.string (mkS t.img)) ∧ W.cell? ⟨b, 2, none⟩ = some (.int .i64 t.er) ∧ W.cell? ⟨b, 3, none⟩ = some (.slice t.sp t.seats.length t.sc) ∧ W.cell? ⟨b, 4, none⟩ = some (.slice t.mp t.mem.length t.mc) ∧ W.cell? ⟨b, 5, none⟩ = some (.slice t.np t.inits.length t.nc) ∧ W.cell? ⟨b, 6, none⟩ = some (.int .u64 (t.entry : Int)) := h.at

/-- What stands while a told value is laid: the writer in c, its box in K, the value in b. -/
structure TIn (w1 W3 W : World) (b c K : Nat) (t : ToldH) (v0 v : Value) (ys : List UInt8) : Prop where
  l : Lays w1 W3 W c v0 v ys
  kb : W.heap[K]? = some (.cells #[.pointer (some ⟨c, 0, none⟩)] 57 (0, 0))
  kv : v.ownBlock ≠ some K
  box : ToldBox W b t
theorem TIn.next {w1 W3 W W' : World} {b c K : Nat} {t : ToldH} {v0 v v' : Value} {ys zs : List UInt8} (h : TIn w1 W3 W b c K t v0 v ys) (hc : w1.heap.size ≤ c) (hKc : K ≠ c) (hb : b < w1.heap.size) (hr : Wr W' c w1.heap.size v' zs) (ho : Wrote W W' c v v') : TIn w1 W3 W' b c K t v0 v' zs :=
  ⟨h.l.next hc hr ho, ho.box h.kb hKc h.kv, ho.off (Array.getElem?_eq_some_iff.1 h.kb).1 h.kv, ((ho.below hc h.l.bel.size h.l.wr.high).block b hb).trans h.box⟩
theorem TIn.k0 {w1 W3 W : World} {b c K : Nat} {t : ToldH} {v0 v : Value} {ys : List UInt8} (h : TIn w1 W3 W b c K t v0 v ys) : W.cell? ⟨K, 0, none⟩ = some (.pointer (some ⟨c, 0, none⟩)) := cell_of_row W K 0 _ _ _ h.kb

set_option maxHeartbeats 4000000 in
theorem tl_bytes_linked (w : World) (t : ToldV) (h : ToldAt w t) (her : t.er = 0) (hm : mayLV t = true) :
    Calls Tryz.prog 16 #[.agg t.h.cells] w fun e w' => ∃ v, e = .returned (.tuple #[v, .int .i64 0]) ∧ OB w' w.heap.size 5 v t.m.enc ∧ Below w.heap.size w w' := by
  have HI := hid (And.intro (TlIn.new w t.h) h)
  have HM := hid (fun W (hW : ToldAt W t) => show Calls Tryz.prog 14 #[.agg #[.int .i64 t.ph, .string (mkS t.img), .int .i64 t.er, .slice t.sp t.seats.length t.sc, .slice t.mp t.mem.length t.mc, .slice t.np t.inits.length t.nc, .int .u64 (t.entry : Int)]] W fun e w' => e = .returned (.bool true) ∧ Below W.heap.size W w' from by have := tl_may_linked W t hW her; rw [hm] at this; exact this)
  have HT := hid (fun (W : World) (hW : ToldAt W t) => told_bounds hW her hm)
  have hn : (t.er != 0) = false := by rw [her]; rfl
  clear h hm her
  show Calls Tryz.prog 16 #[.agg #[.int .i64 t.ph, .string (mkS t.img), .int .i64 t.er, .slice t.sp t.seats.length t.sc, .slice t.mp t.mem.length t.mc, .slice t.np t.inits.length t.nc, .int .u64 (t.entry : Int)]] w _
  have hi := HI.out.1
  obtain ⟨x0, x1, x2, x3, x4, x5, x6⟩ := hi.box.atV
  have hat : ToldAt (w.alloc (.cells t.h.cells 49)) t := HI.out.2.below ((Below.refl _ _).alloc (Nat.le_refl _) _)
  have HA := hid hat
  clear hi hat
  go_enter Tryz.func16, Tryz.ntmps16
  go_wp2_with fail
  refine (HM.out _ HA.out).mono ?_
  rintro e w1 ⟨rfl, hb1⟩
  have hi1 := HI.out.1.below hb1
  have hat1 := HA.out.below hb1
  clear hb1 x0 x1 x2 x3 x4 x5 x6
  obtain ⟨x0, x1, x2, x3, x4, x5, x6⟩ := hi1.box.atV
  have H1 := hid (And.intro hi1 hat1)
  have HB := hid (HT.out w1 hat1)
  clear hi1 hat1
  go_upto_region 4 with fail
  obtain ⟨-, hb2, hs2⟩ := alloc2 w1 (.cells #[.slice none 0 0] 59) (.cells #[.pointer (some ⟨w1.heap.size, 0, none⟩)] 57)
  have hw2 := writer_new w1
  generalize ((w1.alloc (.cells #[.slice none 0 0] 59)).alloc (.cells #[.pointer (some ⟨w1.heap.size, 0, none⟩)] 57)) = W2 at hb2 hs2 hw2 ⊢
  clear x0 x1 x2 x3 x4 x5 x6
  obtain ⟨x0, x1, x2, x3, x4, x5, x6⟩ := (H1.out.1.below hb2).box.atV
  obtain ⟨hw2, hk2⟩ := hw2
  have k0 : W2.cell? ⟨w1.heap.size + 1, 0, none⟩ = some (.pointer (some ⟨w1.heap.size, 0, none⟩)) := cell_of_row _ _ 0 _ _ _ hk2
  have z0 := hw2.cell.1
  have zf := hw2.cell.2
  have H2 := hid (And.intro (H1.out.1.below hb2) (And.intro hb2 (And.intro hw2 hk2)))
  clear hb2 hw2 hk2
  go_upto_region 9 with fail
  obtain ⟨hw3, hg3⟩ := writer_lit H2.out.2.2.1 (by omega) [76] (by simp)
  have hW3 : ((W2.setCell ⟨w1.heap.size, 0, none⟩ (.slice (some ⟨w1.heap.size + 1 + 1, 0, none⟩) 1 1)).alloc (.cells #[.int .u8 76] 5)) = ((W2.setCell ⟨w1.heap.size, 0, none⟩ (.slice (some ⟨W2.heap.size, 0, none⟩) 1 1)).alloc (.cells (u8s [76]).toArray 5)) := by rw [hs2]; rfl
  rw [hW3]
  have hw3 : Wr ((W2.setCell ⟨w1.heap.size, 0, none⟩ (.slice (some ⟨W2.heap.size, 0, none⟩) 1 1)).alloc (.cells (u8s [76]).toArray 5)) w1.heap.size w1.heap.size (.slice (some ⟨W2.heap.size, 0, none⟩) 1 1) [76] := hw3
  have hg3 : W2.grownBy ((W2.setCell ⟨w1.heap.size, 0, none⟩ (.slice (some ⟨W2.heap.size, 0, none⟩) 1 1)).alloc (.cells (u8s [76]).toArray 5)) (some w1.heap.size) := hg3
  generalize ((W2.setCell ⟨w1.heap.size, 0, none⟩ (.slice (some ⟨W2.heap.size, 0, none⟩) 1 1)).alloc (.cells (u8s [76]).toArray 5)) = W3 at hw3 hg3 ⊢
  have hbl := H2.out.1.box.lt
  have hxl := H1.out.1.box.lt
  have hx3 : ToldBox W3 w.heap.size t.h := (hg3.block _ hbl (fun e => by have := Option.some.inj e; omega)).trans H2.out.1.box
  have hk3 := (hg3.block _ (Array.getElem?_eq_some_iff.1 H2.out.2.2.2).1 (fun e => by have := Option.some.inj e; omega)).trans H2.out.2.2.2
  have hb3 : Below w1.heap.size w1 W3 := Below.put H2.out.2.1 (Nat.le_refl _) (Nat.le_refl _) hg3
  have hs3 := hg3.size
  have hob : (Value.slice (some ⟨W2.heap.size, 0, none⟩) 1 1).ownBlock = some W2.heap.size := rfl
  have hi3 : TIn w1 W3 W3 w.heap.size w1.heap.size (w1.heap.size + 1) t.h (.slice (some ⟨W2.heap.size, 0, none⟩) 1 1) (.slice (some ⟨W2.heap.size, 0, none⟩) 1 1) [76] :=
    ⟨Lays.start hb3 hw3, hk3, by rw [hob]; intro e; have := Option.some.inj e; omega, hx3⟩
  have hz1 := H1.out.1.bel.size
  clear hW3 x0 x1 x2 x3 x4 x5 x6 k0 z0 zf hx3 hk3 hb3 hw3 hg3 hob
  obtain ⟨x0, x1, x2, x3, x4, x5, x6⟩ := hi3.box.atV
  have k0 := hi3.k0
  have H3 := hid hi3
  clear hi3
  obtain ⟨q1, q2, q3, q4, q5, q6, q7, q8, q9, q10⟩ := HB.out
  have HQ := hid (And.intro q7 (And.intro q8 (And.intro q9 q10)))
  clear q1 q2 q7 q8 q9 q10
  go_wp2_with fail
  refine (lay_seats w1 W3 _ (w1.heap.size + 1) _ _ t.sp t.sc t.seats H3.out.l.bel (Nat.le_refl _) H3.out.l.wr H3.out.kb (by omega) H3.out.kv H1.out.2.seats HQ.out.1 (by omega) (by simp only [List.length_cons, List.length_nil]; omega)).mono ?_
  rintro e w4 ⟨rfl, v4, hl4⟩
  have hi := H3.out.next (Nat.le_refl _) (by omega) hxl hl4.wr hl4.wo
  clear hl4 x0 x1 x2 x3 x4 x5 x6 k0
  obtain ⟨x0, x1, x2, x3, x4, x5, x6⟩ := hi.box.atV
  have k0 := hi.k0
  have H4 := hid hi
  clear hi
  go_wp2_with fail
  refine (lay_pieces w1 w4 _ (w1.heap.size + 1) v4 _ t.mp t.mc t.mem H4.out.l.bel (Nat.le_refl _) H4.out.l.wr H4.out.kb (by omega) H4.out.kv H1.out.2.mem HQ.out.2.1 (by omega) (by simp only [List.length_append, lowB_length, List.length_cons, List.length_nil]; omega)).mono ?_
  rintro e w5 ⟨rfl, v5, hl5⟩
  have hi := H4.out.next (Nat.le_refl _) (by omega) hxl hl5.wr hl5.wo
  clear hl5 x0 x1 x2 x3 x4 x5 x6 k0
  obtain ⟨x0, x1, x2, x3, x4, x5, x6⟩ := hi.box.atV
  have k0 := hi.k0
  have H5 := hid hi
  clear hi
  go_wp2_with fail
  refine (lay_inits w1 w5 _ (w1.heap.size + 1) v5 _ t.np t.nc t.inits H5.out.l.bel (Nat.le_refl _) H5.out.l.wr H5.out.kb (by omega) H5.out.kv H1.out.2.inits HQ.out.2.2.1 (by omega) (by simp only [List.length_append, lowB_length, List.length_cons, List.length_nil]; omega)).mono ?_
  rintro e w6 ⟨rfl, v6, hl6⟩
  have hi := H5.out.next (Nat.le_refl _) (by omega) hxl hl6.wr hl6.wo
  clear hl6 x0 x1 x2 x3 x4 x5 x6 k0
  obtain ⟨x0, x1, x2, x3, x4, x5, x6⟩ := hi.box.atV
  have k0 := hi.k0
  have H6 := hid hi
  clear hi
  go_wp2_with fail
  refine (w_number _ _ w1.heap.size v6 _ t.entry 8 8 rfl (by omega) H1.out.2.entry H6.out.l.wr (by simp only [List.length_append, lowB_length, List.length_cons, List.length_nil]; omega) H6.out.l.bel.size).mono ?_
  rintro e w7 ⟨rfl, v7, hwr, hwo⟩
  have hi := H6.out.next (Nat.le_refl _) (by omega) hxl hwr hwo
  clear hwr hwo x0 x1 x2 x3 x4 x5 x6 k0
  obtain ⟨p9, n9, c9, hv9⟩ := OB.form3 hi.l.wr.own
  subst hv9
  have k0 := hi.k0
  have y0 := hi.l.wr.cell.1
  have H7 := hid hi
  clear hi
  go_wp2_with fail
  refine bodyPost_ret (v := .tuple #[.slice p9 n9 c9, .int .i64 0]) (by simp [results, Tryz.results16, go_sem]) rfl ?_
  refine ⟨_, rfl, ?_, H1.out.1.bel.trans (H7.out.l.bel.mono hz1)⟩
  have h9 := H7.out.l.wr.own
  rw [← HQ.out.2.2.2] at h9
  exact h9.base hz1
end Go.Proofs.YtfkpbgookilhjaaGreatDoor
