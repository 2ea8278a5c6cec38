/- What is told is read as it was laid: dependencies, seats, pieces, inits. Printed in part by gen_read.py. -/
import Derived.Test.YtfkpbgookilhjaaGreatDoorZScP
import Derived.Test.YtfkpbgookilhjaaGreatDoorZScTw
import Derived.Test.YtfkpbgookilhjaaGreatDoorZScT
import Derived.Deep.RegionHeld
namespace Go.Proofs.YtfkpbgookilhjaaGreatDoor
set_option linter.unusedSimpArgs false
set_option linter.unusedVariables false
open Go.RowKit

theorem rows_lt {α : Type} {cs : α → List Value} {k : Nat} {W : World} {v : Value} {l : List α} (h : RowsAt cs k W v l) (hk : ∀ x ∈ l, ∃ u, (cs x)[0]? = some u) {b : Nat} (hb : inBlk v b) : b < W.heap.size := by
  obtain ⟨p, cap, rfl, h1, h2, h3⟩ := h
  have hpos := inBlk_pos hb
  have hne : l ≠ [] := List.length_pos_iff.1 hpos
  obtain ⟨g, off, rfl, hc⟩ := h3 hne
  obtain ⟨u, hu⟩ := hk l[0] (List.getElem_mem _)
  have h0 := World.block_lt_of_cell? W _ (hc 0 l[0] (List.getElem?_eq_getElem hpos) 0 u hu)
  have e : g = b := hb.2
  rw [← e]; simpa using h0
def intS : Shape Int := ⟨intC, fun _ => .slice none 0 0, fun _ _ => True⟩
theorem intS_ok : intS.Ok := ⟨fun _ _ _ _ hb => hb.elim, fun _ _ _ _ _ => trivial⟩
def seatS : Shape SeatV := ⟨SeatV.cells, fun s => .slice s.p s.deps.length s.cap, fun s W => IntsAt W (.slice s.p s.deps.length s.cap) s.deps⟩
theorem seatS_ok : seatS.Ok := ⟨fun _ _ _ h hb => rows_lt h (fun _ _ => ⟨_, rfl⟩) hb, fun _ _ _ h hk => RowsAt.of_block h (fun _ _ => ⟨_, rfl⟩) hk⟩
def pieceS : Shape PieceV := ⟨PieceV.cells, fun f => .slice f.p f.n f.cap, fun f W => BS W (.slice f.p f.n f.cap) f.bytes⟩
theorem pieceS_ok : pieceS.Ok := ⟨fun _ _ _ h hb => bs_lt h hb, fun _ _ _ h hk => h.of_block hk⟩
def initS : Shape InitM := ⟨InitM.cells, fun _ => .slice none 0 0, fun _ _ => True⟩
theorem initS_ok : initS.Ok := ⟨fun _ _ _ _ hb => hb.elim, fun _ _ _ _ _ => trivial⟩

set_option maxHeartbeats 1000000 in
theorem rd_dep (r c : Nat) (w : World) (l y : List UInt8) (k : Nat) (d : Int) (h : RdAt w r c l k) (hl : l.drop k = encD d ++ y) (hd : badD d = false) :
    Calls Tryz.prog 63 #[.pointer (some ⟨r, 0, none⟩)] w fun e w' => e = .returned (.int .i64 d) ∧ RdAt w' r c l (k + 2) ∧ l.drop (k + 2) = y ∧ w.grownBy w' (some c) := by
  have hd2 : -1 ≤ d ∧ d ≤ 65534 := by
    unfold badD inB2 at hd
    simp only [Bool.not_eq_false', Bool.and_eq_true, decide_eq_true_eq] at hd
    exact hd
  obtain ⟨N, hN⟩ : ∃ N, N = two d := ⟨_, rfl⟩
  have hN2 : N < 65536 := by rw [hN]; unfold two; omega
  have hw : IntKind.i64.wrap (N : Int) = (N : Int) := IntWalk.i64_in _ (by omega)
  unfold encD at hl
  rw [← hN] at hl
  obtain ⟨x0, x1⟩ := h.cell
  have H := hid (And.intro h (And.intro hl hN))
  clear h hl hN
  by_cases hm : d = -1
  · have hc : ((N : Int) == 65535) = true := by rw [H.out.2.2, hm]; rfl
    subst hm
    go_enter Tryz.func63, Tryz.ntmps63
    go_wp2_with fail
    refine (rd_number c _ l y k N 2 2 (by simp) rfl H.out.1.cur H.out.2.1 hN2).mono ?_
    rintro e w1 ⟨rfl, hc1, hd1, hg1⟩
    have H1 := hid (And.intro (H.out.1.next hc1 hg1) (And.intro hd1 hg1))
    clear hc1 hd1 hg1 x0 x1
    go_wp2_with fail
    go_ret
    exact ⟨rfl, H1.out⟩
  · have hNd : (N : Int) = d := by rw [H.out.2.2]; unfold two; omega
    have hc : ((N : Int) == 65535) = false := by rw [beq_eq_false_iff_ne]; omega
    have Hn := hid hNd
    clear hm hd2 hNd
    go_enter Tryz.func63, Tryz.ntmps63
    go_wp2_with fail
    refine (rd_number c _ l y k N 2 2 (by simp) rfl H.out.1.cur H.out.2.1 hN2).mono ?_
    rintro e w1 ⟨rfl, hc1, hd1, hg1⟩
    have H1 := hid (And.intro (H.out.1.next hc1 hg1) (And.intro hd1 hg1))
    clear hc1 hd1 hg1 x0 x1
    go_wp2_with fail
    go_ret
    exact ⟨by rw [← Hn.out]; rfl, H1.out⟩

theorem Tryz.info_ints : (Tryz.prog.info? 3).map (fun i => (i.zero, i.size, i.bytes)) = some (some (.int .i64 0), 1, 8) := by kernel_rfl
theorem un_ints : Tryz.prog.underlying 88 = some (.slice 3) := by kernel_rfl

set_option maxHeartbeats 2000000 in
theorem read_ints (r c : Nat) (w : World) (l y : List UInt8) (ms : List Int) (k : Nat) (h : RdAt w r c l k) (hl : l.drop k = lowB ms.length 2 ++ (ms.flatMap encD ++ y)) (hn : ms.length ≤ 65535) (hs : ∀ m ∈ ms, badD m = false) :
    Calls Tryz.prog 62 #[.pointer (some ⟨r, 0, none⟩), .int .i64 2, .int .i64 65535, .func (.func 63) #[.pointer (some ⟨r, 0, none⟩)] #[]] w fun e w' =>
      ∃ o done, e = .returned o ∧ done.map id = ms ∧ RdIn intS 3 1 w w' r c l (k + 2 + (ms.flatMap encD).length) y o done := by
  have hrc : r < w.heap.size ∧ c < w.heap.size := ⟨(Array.getElem?_eq_some_iff.1 h.box).1, h.cur.lt⟩
  have hw1 : IntKind.i64.wrap (ms.length : Int) = ms.length := IntWalk.i64_in _ (by omega)
  have hd0 : decide ((65535 : Int) < (ms.length : Int)) = false := decide_eq_false (by omega)
  have hd0' : decide (65535 < ms.length) = false := decide_eq_false (by omega)
  obtain ⟨i0, hi, hz0, hz1, hz2⟩ := info_parts Tryz.info_ints
  obtain ⟨x0, x1⟩ := h.cell
  have H := hid (And.intro h (And.intro hl (And.intro hs (And.intro hi (And.intro hz0 (And.intro hz1 hz2))))))
  skip
  clear h hl hs hi hz0 hz1 hz2 
  go_enter Tryz.func62, Tryz.ntmps62
  go_wp2_with fail
  refine (rd_number c _ l _ k ms.length 2 _ (by simp) rfl H.out.1.cur H.out.2.1 (by omega)).mono ?_
  rintro e w1 ⟨rfl, hc1, hd1, hg1⟩
  have h1 : RdIn intS 3 1 w w1 r c l (k + 2) (ms.flatMap encD ++ y) (.slice none 0 0) [] := ⟨H.out.1.next hc1 hg1, hd1, hg1, OwnL.nil _ _ _ _ _⟩
  have H1 := hid (And.intro h1 True.intro)
  clear h1 hc1 hd1 hg1 x0 x1
  go_wp2_with fail
  go_loopw [8, 30] (fun o i wr => ∃ (n : Nat) (done : List Int), n ≤ ms.length ∧ i = .int .i64 (n : Int) ∧ done.map id = ms.take n ∧ RdIn intS 3 1 w wr r c l (k + 2 + ((ms.take n).flatMap encD).length) ((ms.drop n).flatMap encD ++ y) o done ∧ True) (fun _ i _ => ms.length - (intOf i).toNat)
  case atStart => exact ⟨0, [], Nat.zero_le _, rfl, rfl, by simpa using H1.out.1, H1.out.2⟩
  case round =>
    obtain ⟨n, done, hn', rfl, hdm, hr, hk⟩ := hrel
    by_cases hlt : n < ms.length
    · obtain ⟨m, hsn⟩ : ∃ m, ms[n]? = some m := ⟨_, List.getElem?_eq_getElem hlt⟩
      have hmem := List.mem_of_getElem? hsn
      have hsm := H.out.2.2.1 m hmem
      have e1 : (ms.drop n).flatMap encD ++ y = encD m ++ ((ms.drop (n + 1)).flatMap encD ++ y) := by
        obtain ⟨hlt', rfl⟩ := List.getElem?_eq_some_iff.1 hsn
        rw [List.drop_eq_getElem_cons hlt', List.flatMap_cons, List.append_assoc]
      have e2 := flat_snoc encD hsn
      have e3 : ms.take (n + 1) = ms.take n ++ [m] := by rw [List.take_add_one, hsn]; rfl
      have hl2 := hr.left
      rw [e1] at hl2
      have hdl : done.length = n := by have := congrArg List.length hdm; rw [List.length_map, List.length_take] at this; omega
      skip
      have Hr := hid (And.intro hr (And.intro hk (And.intro hl2 (And.intro e2 (And.intro e3 (And.intro hdm hdl))))))
      clear hr hl2 e1 e2 e3 hsn hmem hk hdm hdl
      go_wp2_with fail
      refine (rd_dep r c _ l _ _ m Hr.out.1.rd Hr.out.2.2.1 hsm).mono ?_
      rintro e w2 ⟨rfl, hrd, hdr, hg2⟩
      have hbs2 : intS.rd m w2 := trivial
      have hnew := True.intro
      have h2 := Hr.out.1.keep intS_ok hrc.2 hrd hdr hg2
      have hap := new_apart Hr.out.1.own.own Hr.out.1.by_.size (v := intS.sl m) (fun b hb => hb.elim)
      have hk2 := True.intro
      have hb2 : Below w2.heap.size w2 w2 := Below.refl _ _
      have h3 := h2.below intS_ok hrc.2 hb2
      obtain ⟨x0, x1⟩ := h3.rd.cell
      have hrow := True.intro
      have H2 := hid (And.intro h3 (And.intro hbs2 (And.intro hap (And.intro hk2 (And.intro hrow hb2)))))
      clear hrd hdr hg2 h2 hbs2 hnew hap hk2 h3 hrow hb2
      go_wp2_with fail
      refine (cur_err0 c _ l _ H2.out.1.rd.cur).mono ?_
      rintro e w3 ⟨rfl, hb3⟩
      skip
      have H3 := hid (And.intro (H2.out.1.below intS_ok hrc.2 hb3) (And.intro (intS_ok.keep m _ _ (intS_ok.keep m _ _ H2.out.2.1 (fun b _ hlt => H2.out.2.2.2.2.2.block b hlt)) (fun b _ hlt => hb3.block b hlt)) True.intro))
      clear hb3 x0 x1
      skip
      obtain ⟨p, cap, rfl⟩ := ownsRow_form H3.out.1.own.own
      go_wp2_with (at_builtin; refine wpList_append_grew _ rfl _ _ _ _ rfl w.heap.size 3 i0 _ 1 8 un_ints H.out.2.2.2.1 H.out.2.2.2.2.1 H.out.2.2.2.2.2.1 H.out.2.2.2.2.2.2 rfl (.slice p done.length cap) done.length (done.flatMap intS.cs) rfl (ownsRow_below H3.out.1.own.own ((Below.refl _ _).alloc (Nat.le_refl _) _)) _ 1 [.int .i64 m] rfl (Src.laid _ un_ints [.int .i64 m] 1 rfl (by simp [Value.oneCell']) (0, 0) rfl) (Nat.le_trans (show done.length + 1 ≤ 2000000 by have := Hr.out.2.2.2.2.2.2; omega) (by decide)) (by have := Hr.out.2.2.2.2.2.2; omega) ?c3 ?_)
      case c3 => have := H3.out.1.by_.size; simp; omega
      intro v' w4 hown4 hg4
      have h4 := H3.out.1.push intS_ok (x := m) hrc H3.out.2.1 H2.out.2.2.1 (Grew.under ((Below.refl _ _).alloc (Nat.le_refl _) _) hg4) hown4
      have hk4 : True := True.intro
      have H4 := hid (And.intro h4 hk4)
      clear h4 hown4 hg4 hk4
      go_wp2_with fail
      refine ⟨⟨n + 1, done ++ [m], by omega, by go_num, ?_, ?_, H4.out.2⟩, by simp [intOf]; omega⟩
      · rw [List.map_append, Hr.out.2.2.2.2.2.1, Hr.out.2.2.2.2.1]; rfl
      · have := H4.out.1
        rwa [show k + 2 + ((ms.take n).flatMap encD).length + 2 = k + 2 + ((ms.take (n + 1)).flatMap encD).length by rw [Hr.out.2.2.2.1, List.length_append]; have := (encD_length m); omega] at this
    · have Hr := hid (And.intro hr hdm)
      clear hr hdm hk
      go_wp2_with fail
      go_ret
      obtain ⟨hr, hdm⟩ := Hr.out
      obtain rfl : n = ms.length := by omega
      rw [List.take_of_length_le (Nat.le_refl _)] at hr hdm
      rw [List.drop_of_length_le (Nat.le_refl _)] at hr
      exact ⟨_, _, rfl, hdm, hr⟩


/-- What a drawn region keeps: the reader's pointer in K, the cursor's in r. -/
def KR2 (K r c : Nat) (W : World) : Prop := W.cell? ⟨K, 0, none⟩ = some (.pointer (some ⟨r, 0, none⟩)) ∧ W.cell? ⟨r, 0, none⟩ = some (.pointer (some ⟨c, 0, none⟩))
theorem FIn.kr {w W : World} {K r c X : Nat} {l : List UInt8} {k : Nat} {y : List UInt8} {C : Array Value} {t : TypeId} (h : FIn w W K r c X l k y C t) : W.cell? ⟨K, 0, none⟩ = some (.pointer (some ⟨r, 0, none⟩)) ∧ W.cell? ⟨r, 0, none⟩ = some (.pointer (some ⟨c, 0, none⟩)) := ⟨h.ka.cell, h.nm.rd.cell.1⟩
theorem kr_put {W : World} {K r c X i : Nat} {u : Value} (hK : K ≠ X) (hr : r ≠ X) (h : W.cell? ⟨K, 0, none⟩ = some (.pointer (some ⟨r, 0, none⟩)) ∧ W.cell? ⟨r, 0, none⟩ = some (.pointer (some ⟨c, 0, none⟩))) :
    (W.setCell ⟨X, i, none⟩ u).cell? ⟨K, 0, none⟩ = some (.pointer (some ⟨r, 0, none⟩)) ∧ (W.setCell ⟨X, i, none⟩ u).cell? ⟨r, 0, none⟩ = some (.pointer (some ⟨c, 0, none⟩)) :=
  ⟨(World.cell?_setCell_other _ _ _ _ (by first | (simp; done) | (simp; omega))).trans h.1, (World.cell?_setCell_other _ _ _ _ (by first | (simp; done) | (simp; omega))).trans h.2⟩

set_option maxHeartbeats 2000000 in
/-- One seat. -/
theorem rd_seat (K r c : Nat) (w : World) (l pa : List UInt8) (sl : Nat) (ds : List Int) (y : List UInt8) (k : Nat) (hK : KAt w K r) (hKc : K ≠ c) (h : RdAt w r c l k) (hl : l.drop k = nmB pa ++ (lowB sl 8 ++ (lowB ds.length 2 ++ (ds.flatMap encD ++ y)))) (hpa : pa.length < 65536) (hds : ds.length ≤ 65535) (hgd : ds.any badD = false) (hsl : sl < 2 ^ 64) :
    Calls Tryz.prog 61 #[.pointer (some ⟨K, 0, none⟩)] w fun e w' =>
      ∃ p' cap', e = .returned (.agg #[.string (mkS pa), .int .u64 (sl : Int), .slice p' ds.length cap']) ∧ IntsAt w' (.slice p' ds.length cap') ds ∧ (∀ b, inBlk (.slice p' ds.length cap') b → w.heap.size < b) ∧ RdAt w' r c l (k + 2 + pa.length + 8 + 2 + (ds.flatMap encD).length) ∧ l.drop (k + 2 + pa.length + 8 + 2 + (ds.flatMap encD).length) = y ∧ w.grownBy w' (some c) := by
  have hcl : r < w.heap.size ∧ c < w.heap.size := ⟨(Array.getElem?_eq_some_iff.1 h.box).1, h.cur.lt⟩
  have hX : w.heap.size ≠ c := by omega
  have hKX : K ≠ w.heap.size := by have := hK.lt; omega
  have hrX : r ≠ w.heap.size := by omega
  have hsl2 : sl < 256 ^ 8 := Nat.lt_of_lt_of_eq hsl (by decide)
  have HG := hid (fun d (hd : d ∈ ds) => show badD d = false from by have := List.any_eq_false.1 hgd d hd; simpa using this)
  have H := hid (FIn.start #[.string ⟨#[]⟩, .int .u64 0, .slice none 0 0] 90 hK h hl)
  clear h hl hK hgd hsl
  go_enter Tryz.func61, Tryz.ntmps61
  go_upto_region 1 with fail
  have hi := H.out
  have z0 : _ = some (Value.string ⟨#[]⟩) := cell_of_row _ w.heap.size 0 _ _ _ hi.row
  have z1 : _ = some (Value.int .u64 0) := cell_of_row _ w.heap.size 1 _ _ _ hi.row
  have z2 : _ = some (Value.slice none 0 0) := cell_of_row _ w.heap.size 2 _ _ _ hi.row
  have zf := fun i => frozen_of_row _ w.heap.size i _ _ hi.row
  go_region_held (fun W => W.cell? ⟨K, 0, none⟩ = some (.pointer (some ⟨r, 0, none⟩)) ∧ W.cell? ⟨r, 0, none⟩ = some (.pointer (some ⟨c, 0, none⟩))) (first | exact hi.kr | exact kr_put hKX hrX (kr_put hKX hrX (kr_put hKX hrX hi.kr)))
    (first
      | (go_at_call 37; have hq := rd_name r c _ l pa _ k hi.nm.rd hi.nm.left hpa; (with_reducible refine hq.mono ?_); clear hq; rintro e w1 ⟨rfl, hc1, hd1, hg1⟩; have hi := hi.next hKc hX hc1 hd1 hg1; clear hc1 hd1 hg1 z0 z1 z2 zf; have z0 : _ = some (Value.string ⟨#[]⟩) := cell_of_row _ w.heap.size 0 _ _ _ hi.row; have z1 : _ = some (Value.int .u64 0) := cell_of_row _ w.heap.size 1 _ _ _ hi.row; have z2 : _ = some (Value.slice none 0 0) := cell_of_row _ w.heap.size 2 _ _ _ hi.row; have zf := fun i => frozen_of_row _ w.heap.size i _ _ hi.row)
      | (go_at_call 36; have hq := rd_number c _ l _ _ sl 8 8 (by simp) rfl hi.nm.rd.cur hi.nm.left hsl2; (with_reducible refine hq.mono ?_); clear hq; rintro e w2 ⟨rfl, hc2, hd2, hg2⟩; have hi := hi.next hKc hX (hi.nm.rd.next hc2 hg2) hd2 hg2; clear hc2 hd2 hg2 z0 z1 z2 zf; have z0 : _ = some (Value.string ⟨#[]⟩) := cell_of_row _ w.heap.size 0 _ _ _ hi.row; have z1 : _ = some (Value.int .u64 0) := cell_of_row _ w.heap.size 1 _ _ _ hi.row; have z2 : _ = some (Value.slice none 0 0) := cell_of_row _ w.heap.size 2 _ _ _ hi.row; have zf := fun i => frozen_of_row _ w.heap.size i _ _ hi.row)
      | (go_at_call 62; have hq := read_ints r c _ l y ds _ hi.nm.rd hi.nm.left hds HG.out; (with_reducible refine hq.mono ?_); clear hq; rintro e w3 ⟨o3, dn, rfl, hdn, hr3⟩; rw [List.map_id] at hdn; subst hdn; obtain ⟨p3, c3, ho3⟩ := ownsRow_form hr3.own.own; subst ho3; have hsz := hi.nm.by_.size; have hlt := (Array.getElem?_eq_some_iff.1 hi.row).1; have hrow3 := rows_of_own (cs := intC) (k := 1) (by omega) (fun _ => rfl) hr3.own.own; have hi := hi.next hKc hX hr3.rd hr3.left hr3.by_; have H2 := hid (And.intro hrow3 (And.intro hsz hlt)); clear hr3 hrow3 hsz hlt z0 z1 z2 zf; have z0 : _ = some (Value.string ⟨#[]⟩) := cell_of_row _ w.heap.size 0 _ _ _ hi.row; have z1 : _ = some (Value.int .u64 0) := cell_of_row _ w.heap.size 1 _ _ _ hi.row; have z2 : _ = some (Value.slice none 0 0) := cell_of_row _ w.heap.size 2 _ _ _ hi.row; have zf := fun i => frozen_of_row _ w.heap.size i _ _ hi.row)
      | fail "no call")
  all_goals
    obtain ⟨hq, hrow⟩ := put3 (i1 := 0) (i2 := 1) (i3 := 2) (.string (mkS pa)) (.int .u64 (sl : Int)) (.slice p3 dn.length c3) hi.row
    generalize ((w3.setCell ⟨w.heap.size, 0, none⟩ (.string (mkS pa))).setCell ⟨w.heap.size, 1, none⟩ (.int .u64 (sl : Int))).setCell ⟨w.heap.size, 2, none⟩ (.slice p3 dn.length c3) = W5 at hq hrow ⊢
    have q0 : W5.cell? ⟨w.heap.size, 0, none⟩ = some (.string (mkS pa)) := cell_of_row _ _ 0 _ _ _ hrow
    have q1 : W5.cell? ⟨w.heap.size, 1, none⟩ = some (.int .u64 (sl : Int)) := cell_of_row _ _ 1 _ _ _ hrow
    have q2 : W5.cell? ⟨w.heap.size, 2, none⟩ = some (.slice p3 dn.length c3) := cell_of_row _ _ 2 _ _ _ hrow
    have HQ := hid (And.intro hq (hi.put (Nat.le_refl _) hcl hq))
    have Hi := hid hi
    clear hq hi z0 z1 z2 zf hrow
    go_wp2_with fail
    refine bodyPost_ret (v := .agg #[.string (mkS pa), .int .u64 (sl : Int), .slice p3 dn.length c3]) (by simp [results, Tryz.results61, go_sem, q0, q1, q2]) rfl ?_
    refine ⟨p3, c3, rfl, RowsAt.of_block H2.out.1.1 (fun _ _ => ⟨_, rfl⟩) (fun b hb hlt => HQ.out.1.block b hlt (fun e => by have h1 := Option.some.inj e; have := H2.out.1.2 _ hb; have := H2.out.2.2; omega)), fun b hb => Nat.lt_of_lt_of_le H2.out.2.2 (H2.out.1.2 b hb), HQ.out.2.1, Hi.out.nm.left, HQ.out.2.2⟩
end Go.Proofs.YtfkpbgookilhjaaGreatDoor
