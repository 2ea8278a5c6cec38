/- Lists of seats, of pieces and of inits are read as they were laid. Printed in part by gen_read.py. -/
import Derived.Test.YtfkpbgookilhjaaGreatDoorZScRt
namespace Go.Proofs.YtfkpbgookilhjaaGreatDoor
set_option linter.unusedSimpArgs false
set_option linter.unusedVariables false
open Go.RowKit

theorem seat_split (pa : List UInt8) (sl : Nat) (ds : List Int) (Z : List UInt8) : SeatM.enc ⟨pa, sl, ds⟩ ++ Z = nmB pa ++ (lowB sl 8 ++ (lowB ds.length 2 ++ (ds.flatMap encD ++ Z))) := by
  unfold SeatM.enc; simp only [List.append_assoc]; rfl
theorem piece_split (aa : Nat) (pr : Int) (bs Z : List UInt8) : PieceM.enc ⟨aa, pr, bs⟩ ++ Z = lowB aa 8 ++ (lowB pr.toNat 1 ++ (blB bs ++ Z)) := by
  unfold PieceM.enc; simp only [List.append_assoc]
theorem init_split (im : Int) (aa : Nat) (Z : List UInt8) : InitM.enc ⟨im, aa⟩ ++ Z = lowB im.toNat 2 ++ (lowB aa 8 ++ Z) := by
  unfold InitM.enc; simp only [List.append_assoc]

theorem Tryz.info_seats : (Tryz.prog.info? 90).map (fun i => (i.zero, i.size, i.bytes)) = some (some (.agg #[.string ⟨#[]⟩, .int .u64 0, .slice none 0 0]), 3, 48) := by kernel_rfl
theorem un_seats : Tryz.prog.underlying 46 = some (.slice 90) := by kernel_rfl

set_option maxHeartbeats 2000000 in
theorem read_seats (K r c : Nat) (w : World) (l y : List UInt8) (ms : List SeatM) (k : Nat) (hK : KAt w K r) (hKc : K ≠ c) (h : RdAt w r c l k) (hl : l.drop k = lowB ms.length 2 ++ (ms.flatMap SeatM.enc ++ y)) (hn : ms.length ≤ 65535) (hs : ∀ m ∈ ms, m.path.length ≤ 65535 ∧ m.deps.length ≤ 65535 ∧ m.deps.any badD = false ∧ m.slide < 2 ^ 64) :
    Calls Tryz.prog 60 #[.pointer (some ⟨r, 0, none⟩), .int .i64 2, .int .i64 65535, .func (.func 61) #[] #[.pointer (some ⟨K, 0, none⟩)]] w fun e w' =>
      ∃ o done, e = .returned o ∧ done.map SeatV.m = ms ∧ RdIn seatS 90 3 w w' r c l (k + 2 + (ms.flatMap SeatM.enc).length) y o done := by
  have hrc : r < w.heap.size ∧ c < w.heap.size := ⟨(Array.getElem?_eq_some_iff.1 h.box).1, h.cur.lt⟩
  have hw1 : IntKind.i64.wrap (ms.length : Int) = ms.length := IntWalk.i64_in _ (by omega)
  have hd0 : decide ((65535 : Int) < (ms.length : Int)) = false := decide_eq_false (by omega)
  have hd0' : decide (65535 < ms.length) = false := decide_eq_false (by omega)
  obtain ⟨i0, hi, hz0, hz1, hz2⟩ := info_parts Tryz.info_seats
  obtain ⟨x0, x1⟩ := h.cell
  have H := hid (And.intro h (And.intro hl (And.intro hs (And.intro hi (And.intro hz0 (And.intro hz1 hz2))))))
  have HK := hid hK
  clear h hl hs hi hz0 hz1 hz2 hK
  go_enter Tryz.func60, Tryz.ntmps60
  go_wp2_with fail
  refine (rd_number c _ l _ k ms.length 2 _ (by simp) rfl H.out.1.cur H.out.2.1 (by omega)).mono ?_
  rintro e w1 ⟨rfl, hc1, hd1, hg1⟩
  have h1 : RdIn seatS 90 3 w w1 r c l (k + 2) (ms.flatMap SeatM.enc ++ y) (.slice none 0 0) [] := ⟨H.out.1.next hc1 hg1, hd1, hg1, OwnL.nil _ _ _ _ _⟩
  have H1 := hid (And.intro h1 (HK.out.next hKc hg1))
  clear h1 hc1 hd1 hg1 x0 x1
  go_wp2_with fail
  go_loopw [8, 30] (fun o i wr => ∃ (n : Nat) (done : List SeatV), n ≤ ms.length ∧ i = .int .i64 (n : Int) ∧ done.map SeatV.m = ms.take n ∧ RdIn seatS 90 3 w wr r c l (k + 2 + ((ms.take n).flatMap SeatM.enc).length) ((ms.drop n).flatMap SeatM.enc ++ y) o done ∧ KAt wr K r) (fun _ i _ => ms.length - (intOf i).toNat)
  case atStart => exact ⟨0, [], Nat.zero_le _, rfl, rfl, by simpa using H1.out.1, H1.out.2⟩
  case round =>
    obtain ⟨n, done, hn', rfl, hdm, hr, hk⟩ := hrel
    by_cases hlt : n < ms.length
    · obtain ⟨m, hsn⟩ : ∃ m, ms[n]? = some m := ⟨_, List.getElem?_eq_getElem hlt⟩
      have hmem := List.mem_of_getElem? hsn
      have hsm := H.out.2.2.1 m hmem
      have e1 : (ms.drop n).flatMap SeatM.enc ++ y = SeatM.enc m ++ ((ms.drop (n + 1)).flatMap SeatM.enc ++ y) := by
        obtain ⟨hlt', rfl⟩ := List.getElem?_eq_some_iff.1 hsn
        rw [List.drop_eq_getElem_cons hlt', List.flatMap_cons, List.append_assoc]
      have e2 := flat_snoc SeatM.enc hsn
      have e3 : ms.take (n + 1) = ms.take n ++ [m] := by rw [List.take_add_one, hsn]; rfl
      have hl2 := hr.left
      rw [e1] at hl2
      have hdl : done.length = n := by have := congrArg List.length hdm; rw [List.length_map, List.length_take] at this; omega
      obtain ⟨pa, sl, ds⟩ := m
      dsimp only at hsm
      have Hr := hid (And.intro hr (And.intro hk (And.intro hl2 (And.intro e2 (And.intro e3 (And.intro hdm hdl))))))
      clear hr hl2 e1 e2 e3 hsn hmem hk hdm hdl
      go_wp2_with fail
      refine (rd_seat K r c _ l pa sl ds _ _ Hr.out.2.1 hKc Hr.out.1.rd (Hr.out.2.2.1.trans (seat_split pa sl ds _)) (by omega) (by omega) hsm.2.2.1 hsm.2.2.2).mono ?_
      rintro e w2 ⟨p2, cap2, rfl, hbs2, hnew, hrd, hdr, hg2⟩
      have h2 := Hr.out.1.keep seatS_ok hrc.2 hrd hdr hg2
      have hap := new_apart Hr.out.1.own.own Hr.out.1.by_.size (v := seatS.sl (⟨pa, sl, p2, cap2, ds⟩ : SeatV)) (fun b hb => Nat.le_of_lt (hnew b hb))
      have hk2 := Hr.out.2.1.next hKc hg2
      have hb2 : Below w2.heap.size w2 (w2.alloc (.cells #[.string (mkS pa), .int .u64 (sl : Int), .slice p2 ds.length cap2] 90)) := (Below.refl _ _).alloc (Nat.le_refl _) _
      have h3 := h2.below seatS_ok hrc.2 hb2
      obtain ⟨x0, x1⟩ := h3.rd.cell
      have hrow : (w2.alloc (.cells #[.string (mkS pa), .int .u64 (sl : Int), .slice p2 ds.length cap2] 90)).heap[w2.heap.size]? = _ := heap_alloc_new w2 _
      have H2 := hid (And.intro h3 (And.intro hbs2 (And.intro hap (And.intro (hk2.below hb2) (And.intro hrow hb2)))))
      clear hrd hdr hg2 h2 hbs2 hnew hap hk2 h3 hrow hb2
      go_wp2_with fail
      refine (cur_err0 c _ l _ H2.out.1.rd.cur).mono ?_
      rintro e w3 ⟨rfl, hb3⟩
      have hl3 : w2.heap.size < (w2.alloc (.cells #[.string (mkS pa), .int .u64 (sl : Int), .slice p2 ds.length cap2] 90)).heap.size := by simp
      have hrow3 := (hb3.block w2.heap.size hl3).trans H2.out.2.2.2.2.1
      have H3 := hid (And.intro (H2.out.1.below seatS_ok hrc.2 hb3) (And.intro (seatS_ok.keep (⟨pa, sl, p2, cap2, ds⟩ : SeatV) _ _ (seatS_ok.keep (⟨pa, sl, p2, cap2, ds⟩ : SeatV) _ _ H2.out.2.1 (fun b _ hlt => H2.out.2.2.2.2.2.block b hlt)) (fun b _ hlt => hb3.block b hlt)) (H2.out.2.2.2.1.below hb3)))
      clear hb3 x0 x1
      have y0 : w3.cell? ⟨w2.heap.size, 0, none⟩ = some (.string (mkS pa)) := cell_of_row _ w2.heap.size 0 _ _ _ hrow3
      have y1 : w3.cell? ⟨w2.heap.size, 1, none⟩ = some (.int .u64 (sl : Int)) := cell_of_row _ w2.heap.size 1 _ _ _ hrow3
      have y2 : w3.cell? ⟨w2.heap.size, 2, none⟩ = some (.slice p2 ds.length cap2) := cell_of_row _ w2.heap.size 2 _ _ _ hrow3
      clear hrow3 hl3
      obtain ⟨p, cap, rfl⟩ := ownsRow_form H3.out.1.own.own
      go_wp2_with (at_builtin; refine wpList_append_grew _ rfl _ _ _ _ rfl w.heap.size 90 i0 _ 3 48 un_seats H.out.2.2.2.1 H.out.2.2.2.2.1 H.out.2.2.2.2.2.1 H.out.2.2.2.2.2.2 rfl (.slice p done.length cap) done.length (done.flatMap seatS.cs) rfl (ownsRow_below H3.out.1.own.own ((Below.refl _ _).alloc (Nat.le_refl _) _)) _ 1 [.string (mkS pa), .int .u64 (sl : Int), .slice p2 ds.length cap2] rfl (Src.laid _ un_seats [.string (mkS pa), .int .u64 (sl : Int), .slice p2 ds.length cap2] 1 rfl (by simp [Value.oneCell']) (0, 0) rfl) (Nat.le_trans (show done.length + 1 ≤ 2000000 by have := Hr.out.2.2.2.2.2.2; omega) (by decide)) (by have := Hr.out.2.2.2.2.2.2; omega) ?c3 ?_)
      case c3 => have := H3.out.1.by_.size; simp; omega
      intro v' w4 hown4 hg4
      have h4 := H3.out.1.push seatS_ok (x := (⟨pa, sl, p2, cap2, ds⟩ : SeatV)) hrc H3.out.2.1 H2.out.2.2.1 (Grew.under ((Below.refl _ _).alloc (Nat.le_refl _) _) hg4) hown4
      have hk4 : KAt w4 K r := ⟨((Grew.under ((Below.refl _ _).alloc (Nat.le_refl _) _) hg4).block H3.out.2.2.lt (fun e => by have := (World.ownsRow.lt H3.out.1.own.own K e).1; have := HK.out.lt; omega)).trans H3.out.2.2.box⟩
      have H4 := hid (And.intro h4 hk4)
      clear h4 hown4 hg4 hk4
      go_wp2_with fail
      refine ⟨⟨n + 1, done ++ [(⟨pa, sl, p2, cap2, ds⟩ : SeatV)], by omega, by go_num, ?_, ?_, H4.out.2⟩, by simp [intOf]; omega⟩
      · rw [List.map_append, Hr.out.2.2.2.2.2.1, Hr.out.2.2.2.2.1]; rfl
      · have := H4.out.1
        rwa [show k + 2 + ((ms.take n).flatMap SeatM.enc).length + 2 + pa.length + 8 + 2 + (ds.flatMap encD).length = k + 2 + ((ms.take (n + 1)).flatMap SeatM.enc).length by rw [Hr.out.2.2.2.1, List.length_append]; have := (show (SeatM.enc ⟨pa, sl, ds⟩).length = 2 + pa.length + 8 + 2 + (ds.flatMap encD).length by unfold SeatM.enc; simp only [List.length_append, nmB_length, lowB_length]; rfl); omega] at this
    · have Hr := hid (And.intro hr hdm)
      clear hr hdm hk
      go_wp2_with fail
      go_ret
      obtain ⟨hr, hdm⟩ := Hr.out
      obtain rfl : n = ms.length := by omega
      rw [List.take_of_length_le (Nat.le_refl _)] at hr hdm
      rw [List.drop_of_length_le (Nat.le_refl _)] at hr
      exact ⟨_, _, rfl, hdm, hr⟩


set_option maxHeartbeats 2000000 in
/-- One piece. -/
theorem rd_piece (K r c : Nat) (w : World) (l : List UInt8) (aa : Nat) (pr : Int) (bs y : List UInt8) (k : Nat) (hK : KAt w K r) (hKc : K ≠ c) (h : RdAt w r c l k) (hl : l.drop k = lowB aa 8 ++ (lowB pr.toNat 1 ++ (blB bs ++ y))) (hp0 : 0 ≤ pr) (hp1 : pr ≤ 255) (hbs : bs.length < 4294967296) (haa : aa < 2 ^ 64) :
    Calls Tryz.prog 65 #[.pointer (some ⟨K, 0, none⟩)] w fun e w' =>
      ∃ p' cap', e = .returned (.agg #[.int .u64 (aa : Int), .int .i64 pr, .slice p' bs.length cap']) ∧ BS w' (.slice p' bs.length cap') bs ∧ (∀ b, inBlk (.slice p' bs.length cap') b → w.heap.size < b) ∧ RdAt w' r c l (k + 8 + 1 + 4 + bs.length) ∧ l.drop (k + 8 + 1 + 4 + bs.length) = y ∧ w.grownBy w' (some c) := by
  have hcl : r < w.heap.size ∧ c < w.heap.size := ⟨(Array.getElem?_eq_some_iff.1 h.box).1, h.cur.lt⟩
  have hX : w.heap.size ≠ c := by omega
  have hKX : K ≠ w.heap.size := by have := hK.lt; omega
  have hrX : r ≠ w.heap.size := by omega
  have haa2 : aa < 256 ^ 8 := Nat.lt_of_lt_of_eq haa (by decide)
  obtain ⟨N, hN, hN2⟩ : ∃ N : Nat, N = pr.toNat ∧ (N : Int) = pr := ⟨pr.toNat, rfl, by omega⟩
  rw [← hN] at hl
  subst hN2
  have hN3 : N < 256 ^ 1 := by omega
  have hw : IntKind.i64.wrap (N : Int) = (N : Int) := IntWalk.i64_in _ (by omega)
  have H := hid (FIn.start #[.int .u64 0, .int .i64 0, .slice none 0 0] 41 hK h hl)
  clear h hl hK hN haa hp0 hp1
  go_enter Tryz.func65, Tryz.ntmps65
  go_upto_region 1 with fail
  have hi := H.out
  have z0 : _ = some (Value.int .u64 0) := cell_of_row _ w.heap.size 0 _ _ _ hi.row
  have z1 : _ = some (Value.int .i64 0) := cell_of_row _ w.heap.size 1 _ _ _ hi.row
  have z2 : _ = some (Value.slice none 0 0) := cell_of_row _ w.heap.size 2 _ _ _ hi.row
  have zf := fun i => frozen_of_row _ w.heap.size i _ _ hi.row
  go_region_held (fun W => W.cell? ⟨K, 0, none⟩ = some (.pointer (some ⟨r, 0, none⟩)) ∧ W.cell? ⟨r, 0, none⟩ = some (.pointer (some ⟨c, 0, none⟩))) (first | exact hi.kr | exact kr_put hKX hrX (kr_put hKX hrX (kr_put hKX hrX hi.kr)))
    (first
      | (go_at_call 36; have hq := rd_number c _ l _ _ aa 8 8 (by simp) rfl hi.nm.rd.cur hi.nm.left haa2; (with_reducible refine hq.mono ?_); clear hq; rintro e w1 ⟨rfl, hc1, hd1, hg1⟩; have hi := hi.next hKc hX (hi.nm.rd.next hc1 hg1) hd1 hg1; clear hc1 hd1 hg1 z0 z1 z2 zf; have z0 : _ = some (Value.int .u64 0) := cell_of_row _ w.heap.size 0 _ _ _ hi.row; have z1 : _ = some (Value.int .i64 0) := cell_of_row _ w.heap.size 1 _ _ _ hi.row; have z2 : _ = some (Value.slice none 0 0) := cell_of_row _ w.heap.size 2 _ _ _ hi.row; have zf := fun i => frozen_of_row _ w.heap.size i _ _ hi.row)
      | (go_at_call 36; have hq := rd_number c _ l _ _ N 1 1 (by simp) rfl hi.nm.rd.cur hi.nm.left hN3; (with_reducible refine hq.mono ?_); clear hq; rintro e w2 ⟨rfl, hc2, hd2, hg2⟩; have hi := hi.next hKc hX (hi.nm.rd.next hc2 hg2) hd2 hg2; clear hc2 hd2 hg2 z0 z1 z2 zf; have z0 : _ = some (Value.int .u64 0) := cell_of_row _ w.heap.size 0 _ _ _ hi.row; have z1 : _ = some (Value.int .i64 0) := cell_of_row _ w.heap.size 1 _ _ _ hi.row; have z2 : _ = some (Value.slice none 0 0) := cell_of_row _ w.heap.size 2 _ _ _ hi.row; have zf := fun i => frozen_of_row _ w.heap.size i _ _ hi.row)
      | (go_at_call 41; have hq := rd_blob r c _ l bs y _ hi.nm.rd hi.nm.left hbs; (with_reducible refine hq.mono ?_); clear hq; rintro e w3 ⟨p3, c3, rfl, hb3, hk3, hr3, hd3, hg3⟩; have hsz := hi.nm.by_.size; have hlt := (Array.getElem?_eq_some_iff.1 hi.row).1; have hi := hi.next hKc hX hr3 hd3 hg3; have H2 := hid (And.intro hb3 (And.intro hk3 (And.intro hsz hlt))); clear hb3 hk3 hr3 hd3 hg3 hsz hlt z0 z1 z2 zf; have z0 : _ = some (Value.int .u64 0) := cell_of_row _ w.heap.size 0 _ _ _ hi.row; have z1 : _ = some (Value.int .i64 0) := cell_of_row _ w.heap.size 1 _ _ _ hi.row; have z2 : _ = some (Value.slice none 0 0) := cell_of_row _ w.heap.size 2 _ _ _ hi.row; have zf := fun i => frozen_of_row _ w.heap.size i _ _ hi.row)
      | fail "no call")
  all_goals
    obtain ⟨hq, hrow⟩ := put3 (i1 := 0) (i2 := 1) (i3 := 2) (.int .u64 (aa : Int)) (.int .i64 (N : Int)) (.slice p3 bs.length c3) hi.row
    generalize ((w3.setCell ⟨w.heap.size, 0, none⟩ (.int .u64 (aa : Int))).setCell ⟨w.heap.size, 1, none⟩ (.int .i64 (N : Int))).setCell ⟨w.heap.size, 2, none⟩ (.slice p3 bs.length c3) = W5 at hq hrow ⊢
    have q0 : W5.cell? ⟨w.heap.size, 0, none⟩ = some (.int .u64 (aa : Int)) := cell_of_row _ _ 0 _ _ _ hrow
    have q1 : W5.cell? ⟨w.heap.size, 1, none⟩ = some (.int .i64 (N : Int)) := cell_of_row _ _ 1 _ _ _ hrow
    have q2 : W5.cell? ⟨w.heap.size, 2, none⟩ = some (.slice p3 bs.length c3) := cell_of_row _ _ 2 _ _ _ hrow
    have HQ := hid (And.intro hq (hi.put (Nat.le_refl _) hcl hq))
    have Hi := hid hi
    clear hq hi z0 z1 z2 zf hrow
    go_wp2_with fail
    refine bodyPost_ret (v := .agg #[.int .u64 (aa : Int), .int .i64 (N : Int), .slice p3 bs.length c3]) (by simp [results, Tryz.results65, go_sem, q0, q1, q2]) rfl ?_
    refine ⟨p3, c3, rfl, H2.out.1.of_block (fun b hb hlt => HQ.out.1.block b hlt (fun e => by have h1 := Option.some.inj e; have := H2.out.2.1 _ hb; have := H2.out.2.2.2; omega)), fun b hb => Nat.lt_of_lt_of_le H2.out.2.2.2 (H2.out.2.1 b hb), HQ.out.2.1, Hi.out.nm.left, HQ.out.2.2⟩

theorem Tryz.info_pieces : (Tryz.prog.info? 41).map (fun i => (i.zero, i.size, i.bytes)) = some (some (.agg #[.int .u64 0, .int .i64 0, .slice none 0 0]), 3, 40) := by kernel_rfl
theorem un_pieces : Tryz.prog.underlying 42 = some (.slice 41) := by kernel_rfl

set_option maxHeartbeats 2000000 in
theorem read_pieces (K r c : Nat) (w : World) (l y : List UInt8) (ms : List PieceM) (k : Nat) (hK : KAt w K r) (hKc : K ≠ c) (h : RdAt w r c l k) (hl : l.drop k = lowB ms.length 4 ++ (ms.flatMap PieceM.enc ++ y)) (hn : ms.length ≤ 65535) (hs : ∀ m ∈ ms, 0 ≤ m.prot ∧ m.prot ≤ 255 ∧ m.bytes.length ≤ 67108864 ∧ m.at_ < 2 ^ 64) :
    Calls Tryz.prog 64 #[.pointer (some ⟨r, 0, none⟩), .int .i64 4, .int .i64 65535, .func (.func 65) #[] #[.pointer (some ⟨K, 0, none⟩)]] w fun e w' =>
      ∃ o done, e = .returned o ∧ done.map PieceV.m = ms ∧ RdIn pieceS 41 3 w w' r c l (k + 4 + (ms.flatMap PieceM.enc).length) y o done := by
  have hrc : r < w.heap.size ∧ c < w.heap.size := ⟨(Array.getElem?_eq_some_iff.1 h.box).1, h.cur.lt⟩
  have hw1 : IntKind.i64.wrap (ms.length : Int) = ms.length := IntWalk.i64_in _ (by omega)
  have hd0 : decide ((65535 : Int) < (ms.length : Int)) = false := decide_eq_false (by omega)
  have hd0' : decide (65535 < ms.length) = false := decide_eq_false (by omega)
  obtain ⟨i0, hi, hz0, hz1, hz2⟩ := info_parts Tryz.info_pieces
  obtain ⟨x0, x1⟩ := h.cell
  have H := hid (And.intro h (And.intro hl (And.intro hs (And.intro hi (And.intro hz0 (And.intro hz1 hz2))))))
  have HK := hid hK
  clear h hl hs hi hz0 hz1 hz2 hK
  go_enter Tryz.func64, Tryz.ntmps64
  go_wp2_with fail
  refine (rd_number c _ l _ k ms.length 4 _ (by simp) rfl H.out.1.cur H.out.2.1 (by omega)).mono ?_
  rintro e w1 ⟨rfl, hc1, hd1, hg1⟩
  have h1 : RdIn pieceS 41 3 w w1 r c l (k + 4) (ms.flatMap PieceM.enc ++ y) (.slice none 0 0) [] := ⟨H.out.1.next hc1 hg1, hd1, hg1, OwnL.nil _ _ _ _ _⟩
  have H1 := hid (And.intro h1 (HK.out.next hKc hg1))
  clear h1 hc1 hd1 hg1 x0 x1
  go_wp2_with fail
  go_loopw [8, 30] (fun o i wr => ∃ (n : Nat) (done : List PieceV), n ≤ ms.length ∧ i = .int .i64 (n : Int) ∧ done.map PieceV.m = ms.take n ∧ RdIn pieceS 41 3 w wr r c l (k + 4 + ((ms.take n).flatMap PieceM.enc).length) ((ms.drop n).flatMap PieceM.enc ++ y) o done ∧ KAt wr K r) (fun _ i _ => ms.length - (intOf i).toNat)
  case atStart => exact ⟨0, [], Nat.zero_le _, rfl, rfl, by simpa using H1.out.1, H1.out.2⟩
  case round =>
    obtain ⟨n, done, hn', rfl, hdm, hr, hk⟩ := hrel
    by_cases hlt : n < ms.length
    · obtain ⟨m, hsn⟩ : ∃ m, ms[n]? = some m := ⟨_, List.getElem?_eq_getElem hlt⟩
      have hmem := List.mem_of_getElem? hsn
      have hsm := H.out.2.2.1 m hmem
      have e1 : (ms.drop n).flatMap PieceM.enc ++ y = PieceM.enc m ++ ((ms.drop (n + 1)).flatMap PieceM.enc ++ y) := by
        obtain ⟨hlt', rfl⟩ := List.getElem?_eq_some_iff.1 hsn
        rw [List.drop_eq_getElem_cons hlt', List.flatMap_cons, List.append_assoc]
      have e2 := flat_snoc PieceM.enc hsn
      have e3 : ms.take (n + 1) = ms.take n ++ [m] := by rw [List.take_add_one, hsn]; rfl
      have hl2 := hr.left
      rw [e1] at hl2
      have hdl : done.length = n := by have := congrArg List.length hdm; rw [List.length_map, List.length_take] at this; omega
      obtain ⟨aa, pr, bs⟩ := m
      dsimp only at hsm
      have Hr := hid (And.intro hr (And.intro hk (And.intro hl2 (And.intro e2 (And.intro e3 (And.intro hdm hdl))))))
      clear hr hl2 e1 e2 e3 hsn hmem hk hdm hdl
      go_wp2_with fail
      refine (rd_piece K r c _ l aa pr bs _ _ Hr.out.2.1 hKc Hr.out.1.rd (Hr.out.2.2.1.trans (piece_split aa pr bs _)) hsm.1 hsm.2.1 (by omega) hsm.2.2.2).mono ?_
      rintro e w2 ⟨p2, cap2, rfl, hbs2, hnew, hrd, hdr, hg2⟩
      have h2 := Hr.out.1.keep pieceS_ok hrc.2 hrd hdr hg2
      have hap := new_apart Hr.out.1.own.own Hr.out.1.by_.size (v := pieceS.sl (⟨aa, pr, p2, bs.length, cap2, bs⟩ : PieceV)) (fun b hb => Nat.le_of_lt (hnew b hb))
      have hk2 := Hr.out.2.1.next hKc hg2
      have hb2 : Below w2.heap.size w2 (w2.alloc (.cells #[.int .u64 (aa : Int), .int .i64 pr, .slice p2 bs.length cap2] 41)) := (Below.refl _ _).alloc (Nat.le_refl _) _
      have h3 := h2.below pieceS_ok hrc.2 hb2
      obtain ⟨x0, x1⟩ := h3.rd.cell
      have hrow : (w2.alloc (.cells #[.int .u64 (aa : Int), .int .i64 pr, .slice p2 bs.length cap2] 41)).heap[w2.heap.size]? = _ := heap_alloc_new w2 _
      have H2 := hid (And.intro h3 (And.intro hbs2 (And.intro hap (And.intro (hk2.below hb2) (And.intro hrow hb2)))))
      clear hrd hdr hg2 h2 hbs2 hnew hap hk2 h3 hrow hb2
      go_wp2_with fail
      refine (cur_err0 c _ l _ H2.out.1.rd.cur).mono ?_
      rintro e w3 ⟨rfl, hb3⟩
      have hl3 : w2.heap.size < (w2.alloc (.cells #[.int .u64 (aa : Int), .int .i64 pr, .slice p2 bs.length cap2] 41)).heap.size := by simp
      have hrow3 := (hb3.block w2.heap.size hl3).trans H2.out.2.2.2.2.1
      have H3 := hid (And.intro (H2.out.1.below pieceS_ok hrc.2 hb3) (And.intro (pieceS_ok.keep (⟨aa, pr, p2, bs.length, cap2, bs⟩ : PieceV) _ _ (pieceS_ok.keep (⟨aa, pr, p2, bs.length, cap2, bs⟩ : PieceV) _ _ H2.out.2.1 (fun b _ hlt => H2.out.2.2.2.2.2.block b hlt)) (fun b _ hlt => hb3.block b hlt)) (H2.out.2.2.2.1.below hb3)))
      clear hb3 x0 x1
      have y0 : w3.cell? ⟨w2.heap.size, 0, none⟩ = some (.int .u64 (aa : Int)) := cell_of_row _ w2.heap.size 0 _ _ _ hrow3
      have y1 : w3.cell? ⟨w2.heap.size, 1, none⟩ = some (.int .i64 pr) := cell_of_row _ w2.heap.size 1 _ _ _ hrow3
      have y2 : w3.cell? ⟨w2.heap.size, 2, none⟩ = some (.slice p2 bs.length cap2) := cell_of_row _ w2.heap.size 2 _ _ _ hrow3
      clear hrow3 hl3
      obtain ⟨p, cap, rfl⟩ := ownsRow_form H3.out.1.own.own
      go_wp2_with (at_builtin; refine wpList_append_grew _ rfl _ _ _ _ rfl w.heap.size 41 i0 _ 3 40 un_pieces H.out.2.2.2.1 H.out.2.2.2.2.1 H.out.2.2.2.2.2.1 H.out.2.2.2.2.2.2 rfl (.slice p done.length cap) done.length (done.flatMap pieceS.cs) rfl (ownsRow_below H3.out.1.own.own ((Below.refl _ _).alloc (Nat.le_refl _) _)) _ 1 [.int .u64 (aa : Int), .int .i64 pr, .slice p2 bs.length cap2] rfl (Src.laid _ un_pieces [.int .u64 (aa : Int), .int .i64 pr, .slice p2 bs.length cap2] 1 rfl (by simp [Value.oneCell']) (0, 0) rfl) (Nat.le_trans (show done.length + 1 ≤ 2000000 by have := Hr.out.2.2.2.2.2.2; omega) (by decide)) (by have := Hr.out.2.2.2.2.2.2; omega) ?c3 ?_)
      case c3 => have := H3.out.1.by_.size; simp; omega
      intro v' w4 hown4 hg4
      have h4 := H3.out.1.push pieceS_ok (x := (⟨aa, pr, p2, bs.length, cap2, bs⟩ : PieceV)) hrc H3.out.2.1 H2.out.2.2.1 (Grew.under ((Below.refl _ _).alloc (Nat.le_refl _) _) hg4) hown4
      have hk4 : KAt w4 K r := ⟨((Grew.under ((Below.refl _ _).alloc (Nat.le_refl _) _) hg4).block H3.out.2.2.lt (fun e => by have := (World.ownsRow.lt H3.out.1.own.own K e).1; have := HK.out.lt; omega)).trans H3.out.2.2.box⟩
      have H4 := hid (And.intro h4 hk4)
      clear h4 hown4 hg4 hk4
      go_wp2_with fail
      refine ⟨⟨n + 1, done ++ [(⟨aa, pr, p2, bs.length, cap2, bs⟩ : PieceV)], by omega, by go_num, ?_, ?_, H4.out.2⟩, by simp [intOf]; omega⟩
      · rw [List.map_append, Hr.out.2.2.2.2.2.1, Hr.out.2.2.2.2.1]; rfl
      · have := H4.out.1
        rwa [show k + 4 + ((ms.take n).flatMap PieceM.enc).length + 8 + 1 + 4 + bs.length = k + 4 + ((ms.take (n + 1)).flatMap PieceM.enc).length by rw [Hr.out.2.2.2.1, List.length_append]; have := (show (PieceM.enc ⟨aa, pr, bs⟩).length = 8 + 1 + (4 + bs.length) by unfold PieceM.enc; simp only [List.length_append, blB_length, lowB_length]); omega] at this
    · have Hr := hid (And.intro hr hdm)
      clear hr hdm hk
      go_wp2_with fail
      go_ret
      obtain ⟨hr, hdm⟩ := Hr.out
      obtain rfl : n = ms.length := by omega
      rw [List.take_of_length_le (Nat.le_refl _)] at hr hdm
      rw [List.drop_of_length_le (Nat.le_refl _)] at hr
      exact ⟨_, _, rfl, hdm, hr⟩


set_option maxHeartbeats 2000000 in
/-- One init. -/
theorem rd_init (K r c : Nat) (w : World) (l : List UInt8) (im : Int) (aa : Nat) (y : List UInt8) (k : Nat) (hK : KAt w K r) (hKc : K ≠ c) (h : RdAt w r c l k) (hl : l.drop k = lowB im.toNat 2 ++ (lowB aa 8 ++ y)) (hp0 : 0 ≤ im) (hp1 : im ≤ 65535) (haa : aa < 2 ^ 64) :
    Calls Tryz.prog 67 #[.pointer (some ⟨K, 0, none⟩)] w fun e w' =>
      e = .returned (.agg #[.int .i64 im, .int .u64 (aa : Int)]) ∧ RdAt w' r c l (k + 2 + 8) ∧ l.drop (k + 2 + 8) = y ∧ w.grownBy w' (some c) := by
  have hcl : r < w.heap.size ∧ c < w.heap.size := ⟨(Array.getElem?_eq_some_iff.1 h.box).1, h.cur.lt⟩
  have hX : w.heap.size ≠ c := by omega
  have hKX : K ≠ w.heap.size := by have := hK.lt; omega
  have hrX : r ≠ w.heap.size := by omega
  have haa2 : aa < 256 ^ 8 := Nat.lt_of_lt_of_eq haa (by decide)
  obtain ⟨N, hN, hN2⟩ : ∃ N : Nat, N = im.toNat ∧ (N : Int) = im := ⟨im.toNat, rfl, by omega⟩
  rw [← hN] at hl
  subst hN2
  have hN3 : N < 256 ^ 2 := by omega
  have hw : IntKind.i64.wrap (N : Int) = (N : Int) := IntWalk.i64_in _ (by omega)
  have H := hid (FIn.start #[.int .i64 0, .int .u64 0] 95 hK h hl)
  clear h hl hK hN haa hp0 hp1
  go_enter Tryz.func67, Tryz.ntmps67
  go_upto_region 1 with fail
  have hi := H.out
  have z0 : _ = some (Value.int .i64 0) := cell_of_row _ w.heap.size 0 _ _ _ hi.row
  have z1 : _ = some (Value.int .u64 0) := cell_of_row _ w.heap.size 1 _ _ _ hi.row
  have zf := fun i => frozen_of_row _ w.heap.size i _ _ hi.row
  go_region_held (fun W => W.cell? ⟨K, 0, none⟩ = some (.pointer (some ⟨r, 0, none⟩)) ∧ W.cell? ⟨r, 0, none⟩ = some (.pointer (some ⟨c, 0, none⟩))) (first | exact hi.kr | exact kr_put hKX hrX (kr_put hKX hrX hi.kr))
    (first
      | (go_at_call 36; have hq := rd_number c _ l _ _ N 2 2 (by simp) rfl hi.nm.rd.cur hi.nm.left hN3; (with_reducible refine hq.mono ?_); clear hq; rintro e w2 ⟨rfl, hc2, hd2, hg2⟩; have hi := hi.next hKc hX (hi.nm.rd.next hc2 hg2) hd2 hg2; clear hc2 hd2 hg2 z0 z1 zf; have z0 : _ = some (Value.int .i64 0) := cell_of_row _ w.heap.size 0 _ _ _ hi.row; have z1 : _ = some (Value.int .u64 0) := cell_of_row _ w.heap.size 1 _ _ _ hi.row; have zf := fun i => frozen_of_row _ w.heap.size i _ _ hi.row)
      | (go_at_call 36; have hq := rd_number c _ l _ _ aa 8 8 (by simp) rfl hi.nm.rd.cur hi.nm.left haa2; (with_reducible refine hq.mono ?_); clear hq; rintro e w3 ⟨rfl, hc1, hd1, hg1⟩; have hi := hi.next hKc hX (hi.nm.rd.next hc1 hg1) hd1 hg1; clear hc1 hd1 hg1 z0 z1 zf; have z0 : _ = some (Value.int .i64 0) := cell_of_row _ w.heap.size 0 _ _ _ hi.row; have z1 : _ = some (Value.int .u64 0) := cell_of_row _ w.heap.size 1 _ _ _ hi.row; have zf := fun i => frozen_of_row _ w.heap.size i _ _ hi.row)
      | fail "no call")
  all_goals
    obtain ⟨hq1, hrow1⟩ := put1 (i := 0) (.int .i64 (N : Int)) hi.row
    obtain ⟨hq2, hrow⟩ := put1 (i := 1) (.int .u64 (aa : Int)) hrow1
    have hq := grownBy_tr hq1 hq2
    clear hq1 hq2 hrow1
    generalize (w3.setCell ⟨w.heap.size, 0, none⟩ (.int .i64 (N : Int))).setCell ⟨w.heap.size, 1, none⟩ (.int .u64 (aa : Int)) = W5 at hq hrow ⊢
    have q0 : W5.cell? ⟨w.heap.size, 0, none⟩ = some (.int .i64 (N : Int)) := cell_of_row _ _ 0 _ _ _ hrow
    have q1 : W5.cell? ⟨w.heap.size, 1, none⟩ = some (.int .u64 (aa : Int)) := cell_of_row _ _ 1 _ _ _ hrow
    have HQ := hid (And.intro hq (hi.put (Nat.le_refl _) hcl hq))
    have Hi := hid hi
    clear hq hi z0 z1 zf hrow
    go_wp2_with fail
    refine bodyPost_ret (v := .agg #[.int .i64 (N : Int), .int .u64 (aa : Int)]) (by simp [results, Tryz.results67, go_sem, q0, q1]) rfl ?_
    exact ⟨rfl, HQ.out.2.1, Hi.out.nm.left, HQ.out.2.2⟩

theorem Tryz.info_inits : (Tryz.prog.info? 95).map (fun i => (i.zero, i.size, i.bytes)) = some (some (.agg #[.int .i64 0, .int .u64 0]), 2, 16) := by kernel_rfl
theorem un_inits : Tryz.prog.underlying 47 = some (.slice 95) := by kernel_rfl

set_option maxHeartbeats 2000000 in
theorem read_inits (K r c : Nat) (w : World) (l y : List UInt8) (ms : List InitM) (k : Nat) (hK : KAt w K r) (hKc : K ≠ c) (h : RdAt w r c l k) (hl : l.drop k = lowB ms.length 4 ++ (ms.flatMap InitM.enc ++ y)) (hn : ms.length ≤ 1000000) (hs : ∀ m ∈ ms, 0 ≤ m.image ∧ m.image ≤ 65535 ∧ m.at_ < 2 ^ 64) :
    Calls Tryz.prog 66 #[.pointer (some ⟨r, 0, none⟩), .int .i64 4, .int .i64 1000000, .func (.func 67) #[] #[.pointer (some ⟨K, 0, none⟩)]] w fun e w' =>
      ∃ o done, e = .returned o ∧ done.map id = ms ∧ RdIn initS 95 2 w w' r c l (k + 4 + (ms.flatMap InitM.enc).length) y o done := by
  have hrc : r < w.heap.size ∧ c < w.heap.size := ⟨(Array.getElem?_eq_some_iff.1 h.box).1, h.cur.lt⟩
  have hw1 : IntKind.i64.wrap (ms.length : Int) = ms.length := IntWalk.i64_in _ (by omega)
  have hd0 : decide ((1000000 : Int) < (ms.length : Int)) = false := decide_eq_false (by omega)
  have hd0' : decide (1000000 < ms.length) = false := decide_eq_false (by omega)
  obtain ⟨i0, hi, hz0, hz1, hz2⟩ := info_parts Tryz.info_inits
  obtain ⟨x0, x1⟩ := h.cell
  have H := hid (And.intro h (And.intro hl (And.intro hs (And.intro hi (And.intro hz0 (And.intro hz1 hz2))))))
  have HK := hid hK
  clear h hl hs hi hz0 hz1 hz2 hK
  go_enter Tryz.func66, Tryz.ntmps66
  go_wp2_with fail
  refine (rd_number c _ l _ k ms.length 4 _ (by simp) rfl H.out.1.cur H.out.2.1 (by omega)).mono ?_
  rintro e w1 ⟨rfl, hc1, hd1, hg1⟩
  have h1 : RdIn initS 95 2 w w1 r c l (k + 4) (ms.flatMap InitM.enc ++ y) (.slice none 0 0) [] := ⟨H.out.1.next hc1 hg1, hd1, hg1, OwnL.nil _ _ _ _ _⟩
  have H1 := hid (And.intro h1 (HK.out.next hKc hg1))
  clear h1 hc1 hd1 hg1 x0 x1
  go_wp2_with fail
  go_loopw [8, 30] (fun o i wr => ∃ (n : Nat) (done : List InitM), n ≤ ms.length ∧ i = .int .i64 (n : Int) ∧ done.map id = ms.take n ∧ RdIn initS 95 2 w wr r c l (k + 4 + ((ms.take n).flatMap InitM.enc).length) ((ms.drop n).flatMap InitM.enc ++ y) o done ∧ KAt wr K r) (fun _ i _ => ms.length - (intOf i).toNat)
  case atStart => exact ⟨0, [], Nat.zero_le _, rfl, rfl, by simpa using H1.out.1, H1.out.2⟩
  case round =>
    obtain ⟨n, done, hn', rfl, hdm, hr, hk⟩ := hrel
    by_cases hlt : n < ms.length
    · obtain ⟨m, hsn⟩ : ∃ m, ms[n]? = some m := ⟨_, List.getElem?_eq_getElem hlt⟩
      have hmem := List.mem_of_getElem? hsn
      have hsm := H.out.2.2.1 m hmem
      have e1 : (ms.drop n).flatMap InitM.enc ++ y = InitM.enc m ++ ((ms.drop (n + 1)).flatMap InitM.enc ++ y) := by
        obtain ⟨hlt', rfl⟩ := List.getElem?_eq_some_iff.1 hsn
        rw [List.drop_eq_getElem_cons hlt', List.flatMap_cons, List.append_assoc]
      have e2 := flat_snoc InitM.enc hsn
      have e3 : ms.take (n + 1) = ms.take n ++ [m] := by rw [List.take_add_one, hsn]; rfl
      have hl2 := hr.left
      rw [e1] at hl2
      have hdl : done.length = n := by have := congrArg List.length hdm; rw [List.length_map, List.length_take] at this; omega
      obtain ⟨im, aa⟩ := m
      dsimp only at hsm
      have Hr := hid (And.intro hr (And.intro hk (And.intro hl2 (And.intro e2 (And.intro e3 (And.intro hdm hdl))))))
      clear hr hl2 e1 e2 e3 hsn hmem hk hdm hdl
      go_wp2_with fail
      refine (rd_init K r c _ l im aa _ _ Hr.out.2.1 hKc Hr.out.1.rd (Hr.out.2.2.1.trans (init_split im aa _)) hsm.1 hsm.2.1 hsm.2.2).mono ?_
      rintro e w2 ⟨rfl, hrd, hdr, hg2⟩
      have hbs2 : initS.rd ⟨im, aa⟩ w2 := trivial
      have hnew := True.intro
      have h2 := Hr.out.1.keep initS_ok hrc.2 hrd hdr hg2
      have hap := new_apart Hr.out.1.own.own Hr.out.1.by_.size (v := initS.sl (⟨im, aa⟩ : InitM)) (fun b hb => hb.elim)
      have hk2 := Hr.out.2.1.next hKc hg2
      have hb2 : Below w2.heap.size w2 (w2.alloc (.cells #[.int .i64 im, .int .u64 (aa : Int)] 95)) := (Below.refl _ _).alloc (Nat.le_refl _) _
      have h3 := h2.below initS_ok hrc.2 hb2
      obtain ⟨x0, x1⟩ := h3.rd.cell
      have hrow : (w2.alloc (.cells #[.int .i64 im, .int .u64 (aa : Int)] 95)).heap[w2.heap.size]? = _ := heap_alloc_new w2 _
      have H2 := hid (And.intro h3 (And.intro hbs2 (And.intro hap (And.intro (hk2.below hb2) (And.intro hrow hb2)))))
      clear hrd hdr hg2 h2 hbs2 hnew hap hk2 h3 hrow hb2
      go_wp2_with fail
      refine (cur_err0 c _ l _ H2.out.1.rd.cur).mono ?_
      rintro e w3 ⟨rfl, hb3⟩
      have hl3 : w2.heap.size < (w2.alloc (.cells #[.int .i64 im, .int .u64 (aa : Int)] 95)).heap.size := by simp
      have hrow3 := (hb3.block w2.heap.size hl3).trans H2.out.2.2.2.2.1
      have H3 := hid (And.intro (H2.out.1.below initS_ok hrc.2 hb3) (And.intro (initS_ok.keep (⟨im, aa⟩ : InitM) _ _ (initS_ok.keep (⟨im, aa⟩ : InitM) _ _ H2.out.2.1 (fun b _ hlt => H2.out.2.2.2.2.2.block b hlt)) (fun b _ hlt => hb3.block b hlt)) (H2.out.2.2.2.1.below hb3)))
      clear hb3 x0 x1
      have y0 : w3.cell? ⟨w2.heap.size, 0, none⟩ = some (.int .i64 im) := cell_of_row _ w2.heap.size 0 _ _ _ hrow3
      have y1 : w3.cell? ⟨w2.heap.size, 1, none⟩ = some (.int .u64 (aa : Int)) := cell_of_row _ w2.heap.size 1 _ _ _ hrow3
      clear hrow3 hl3
      obtain ⟨p, cap, rfl⟩ := ownsRow_form H3.out.1.own.own
      go_wp2_with (at_builtin; refine wpList_append_grew _ rfl _ _ _ _ rfl w.heap.size 95 i0 _ 2 16 un_inits H.out.2.2.2.1 H.out.2.2.2.2.1 H.out.2.2.2.2.2.1 H.out.2.2.2.2.2.2 rfl (.slice p done.length cap) done.length (done.flatMap initS.cs) rfl (ownsRow_below H3.out.1.own.own ((Below.refl _ _).alloc (Nat.le_refl _) _)) _ 1 [.int .i64 im, .int .u64 (aa : Int)] rfl (Src.laid _ un_inits [.int .i64 im, .int .u64 (aa : Int)] 1 rfl (by simp [Value.oneCell']) (0, 0) rfl) (Nat.le_trans (show done.length + 1 ≤ 2000000 by have := Hr.out.2.2.2.2.2.2; omega) (by decide)) (by have := Hr.out.2.2.2.2.2.2; omega) ?c3 ?_)
      case c3 => have := H3.out.1.by_.size; simp; omega
      intro v' w4 hown4 hg4
      have h4 := H3.out.1.push initS_ok (x := (⟨im, aa⟩ : InitM)) hrc H3.out.2.1 H2.out.2.2.1 (Grew.under ((Below.refl _ _).alloc (Nat.le_refl _) _) hg4) hown4
      have hk4 : KAt w4 K r := ⟨((Grew.under ((Below.refl _ _).alloc (Nat.le_refl _) _) hg4).block H3.out.2.2.lt (fun e => by have := (World.ownsRow.lt H3.out.1.own.own K e).1; have := HK.out.lt; omega)).trans H3.out.2.2.box⟩
      have H4 := hid (And.intro h4 hk4)
      clear h4 hown4 hg4 hk4
      go_wp2_with fail
      refine ⟨⟨n + 1, done ++ [(⟨im, aa⟩ : InitM)], by omega, by go_num, ?_, ?_, H4.out.2⟩, by simp [intOf]; omega⟩
      · rw [List.map_append, Hr.out.2.2.2.2.2.1, Hr.out.2.2.2.2.1]; rfl
      · have := H4.out.1
        rwa [show k + 4 + ((ms.take n).flatMap InitM.enc).length + 2 + 8 = k + 4 + ((ms.take (n + 1)).flatMap InitM.enc).length by rw [Hr.out.2.2.2.1, List.length_append]; have := (show (InitM.enc ⟨im, aa⟩).length = 10 by unfold InitM.enc; simp only [List.length_append, lowB_length]); omega] at this
    · have Hr := hid (And.intro hr hdm)
      clear hr hdm hk
      go_wp2_with fail
      go_ret
      obtain ⟨hr, hdm⟩ := Hr.out
      obtain rfl : n = ms.length := by omega
      rw [List.take_of_length_le (Nat.le_refl _)] at hr hdm
      rw [List.drop_of_length_le (Nat.le_refl _)] at hr
      exact ⟨_, _, rfl, hdm, hr⟩

end Go.Proofs.YtfkpbgookilhjaaGreatDoor
