/- Files that are read as they were laid. -/
import Derived.Test.YtfkpbgookilhjaaGreatDoorZScN
import Derived.Test.YtfkpbgookilhjaaGreatDoorZScF
namespace Go.Proofs.YtfkpbgookilhjaaGreatDoor
set_option linter.unusedSimpArgs false
set_option linter.unusedVariables false
open Go.RowKit

def fileS : Shape FileV := ⟨FileV.cells, fun f => .slice f.p f.n f.cap, fun f W => BS W (.slice f.p f.n f.cap) f.bytes⟩
theorem fileS_ok : fileS.Ok := ⟨fun _ _ _ h hb => bs_lt h hb, fun _ _ _ h hk => h.of_block hk⟩

/-- A closure over a reader: the reader's pointer in the block K. -/
structure KAt (W : World) (K r : Nat) : Prop where
  box : W.heap[K]? = some (.cells #[.pointer (some ⟨r, 0, none⟩)] 70 (0, 0))
theorem KAt.lt {W : World} {K r : Nat} (h : KAt W K r) : K < W.heap.size := (Array.getElem?_eq_some_iff.1 h.box).1
theorem KAt.cell {W : World} {K r : Nat} (h : KAt W K r) : W.cell? ⟨K, 0, none⟩ = some (.pointer (some ⟨r, 0, none⟩)) := cell_of_row W K 0 _ _ _ h.box
theorem KAt.next {W W' : World} {K r c : Nat} (h : KAt W K r) (hc : K ≠ c) (hg : W.grownBy W' (some c)) : KAt W' K r := ⟨(hg.block K h.lt (fun e => hc (by cases e; rfl))).trans h.box⟩
theorem KAt.below {W W' : World} {K r : Nat} (h : KAt W K r) (hb : Below W.heap.size W W') : KAt W' K r := ⟨(hb.block K h.lt).trans h.box⟩

/-- What stands while a struct is read into the block X. -/
structure FIn (w W : World) (K r c X : Nat) (l : List UInt8) (k : Nat) (y : List UInt8) (C : Array Value) (t : TypeId) : Prop where
  nm : NmIn w W r c l k y
  ka : KAt W K r
  row : W.heap[X]? = some (.cells C t (0, 0))
theorem FIn.next {w W W' : World} {K r c X : Nat} {l : List UInt8} {k k' : Nat} {y y' : List UInt8} {C : Array Value} {t : TypeId} (h : FIn w W K r c X l k y C t) (hK : K ≠ c) (hX : X ≠ c) (hc : RdAt W' r c l k') (hd : l.drop k' = y') (hg : W.grownBy W' (some c)) : FIn w W' K r c X l k' y' C t :=
  ⟨⟨hc, hd, grownBy_tr h.nm.by_ hg⟩, h.ka.next hK hg, (hg.block X (Array.getElem?_eq_some_iff.1 h.row).1 (fun e => hX (by cases e; rfl))).trans h.row⟩
theorem FIn.start {w : World} {K r c : Nat} {l : List UInt8} {k : Nat} {y : List UInt8} (C : Array Value) (t : TypeId) (hK : KAt w K r) (h : RdAt w r c l k) (hl : l.drop k = y) : FIn w (w.alloc (.cells C t)).drew K r c w.heap.size l k y C t :=
  have hb0 : Below w.heap.size w (w.alloc (.cells C t)) := (Below.refl _ _).alloc (Nat.le_refl _) _
  ⟨⟨(h.below hb0).drew, hl, grownBy_heap (Below.all hb0 _) rfl rfl rfl rfl⟩, ⟨(hK.below hb0).box⟩, heap_alloc_new w _⟩
/-- The struct is stored over: nothing else is. -/
theorem FIn.put {w W W' : World} {K r c X : Nat} {l : List UInt8} {k : Nat} {y : List UInt8} {C : Array Value} {t : TypeId} (h : FIn w W K r c X l k y C t) (hX : w.heap.size ≤ X) (hw : r < w.heap.size ∧ c < w.heap.size) (hg : W.grownBy W' (some X)) : RdAt W' r c l k ∧ w.grownBy W' (some c) := by
  refine ⟨⟨(hg.block r (Array.getElem?_eq_some_iff.1 h.nm.rd.box).1 (fun e => by cases e; omega)).trans h.nm.rd.box, ?_, h.nm.rd.ne⟩, ?_⟩
  · obtain ⟨v, hv, hvc, hk, hcc⟩ := h.nm.rd.cur
    have hcl : c < W.heap.size := h.nm.rd.cur.lt
    refine ⟨v, hv.of_block (fun b hb hlt => hg.block b hlt (fun e => by cases e; have := hvc _ hb; omega)), hvc, hk, (hg.block c hcl (fun e => by cases e; omega)).trans hcc⟩
  · refine ⟨hg.os.trans h.nm.by_.os, hg.tape.trans h.nm.by_.tape, hg.output.trans h.nm.by_.output, Nat.le_trans h.nm.by_.size hg.size, fun b hb hr => (hg.block b (Nat.lt_of_lt_of_le hb h.nm.by_.size) (fun e => by cases e; omega)).trans (h.nm.by_.block b hb hr)⟩

set_option maxHeartbeats 1000000 in
/-- One file. -/
theorem rd_file (K r c : Nat) (w : World) (l nm bs y : List UInt8) (k : Nat) (hK : KAt w K r) (hKc : K ≠ c) (h : RdAt w r c l k) (hl : l.drop k = nmB nm ++ (blB bs ++ y)) (hnm : nm.length < 65536) (hbs : bs.length < 4294967296) :
    Calls Tryz.prog 40 #[.pointer (some ⟨K, 0, none⟩)] w fun e w' =>
      ∃ p' cap', e = .returned (.agg #[.string (mkS nm), .slice p' bs.length cap']) ∧ BS w' (.slice p' bs.length cap') bs ∧ (∀ b, inBlk (.slice p' bs.length cap') b → w.heap.size < b) ∧ RdAt w' r c l (k + 2 + nm.length + 4 + bs.length) ∧ l.drop (k + 2 + nm.length + 4 + bs.length) = y ∧ w.grownBy w' (some c) := by
  have hcl : r < w.heap.size ∧ c < w.heap.size := ⟨(Array.getElem?_eq_some_iff.1 h.box).1, h.cur.lt⟩
  have hX : w.heap.size ≠ c := by omega
  have H := hid (FIn.start #[.string ⟨#[]⟩, .slice none 0 0] 39 hK h hl)
  clear h hl hK
  go_enter Tryz.func40, Tryz.ntmps40
  go_upto_region 1 with fail
  have hi := H.out
  have k0 := hi.ka.cell
  have z0 := cell_of_row _ w.heap.size 0 _ _ _ hi.row
  have z1 := cell_of_row _ w.heap.size 1 _ _ _ hi.row
  have zf := fun i => frozen_of_row _ w.heap.size i _ _ hi.row
  go_region_with
    (first
      | (go_at_call 37; have hq := rd_name r c _ l nm (blB bs ++ y) k hi.nm.rd hi.nm.left hnm; (with_reducible refine hq.mono ?_); clear hq; rintro e w1 ⟨rfl, hc1, hd1, hg1⟩; have hi := hi.next hKc hX hc1 hd1 hg1; clear hc1 hd1 hg1 k0 z0 z1 zf; have k0 := hi.ka.cell; have z0 := cell_of_row _ w.heap.size 0 _ _ _ hi.row; have z1 := cell_of_row _ w.heap.size 1 _ _ _ hi.row; have zf := fun i => frozen_of_row _ w.heap.size i _ _ hi.row)
      | (go_at_call 41; have hq := rd_blob r c _ l bs y _ hi.nm.rd hi.nm.left hbs; (with_reducible refine hq.mono ?_); clear hq; rintro e w2 ⟨p2, cap2, rfl, hb2, hk2, hc2, hd2, hg2⟩; have hsz := hi.nm.by_.size; have hlt := (Array.getElem?_eq_some_iff.1 hi.row).1; have hi := hi.next hKc hX hc2 hd2 hg2; have H2 := hid (And.intro hb2 (And.intro hk2 (And.intro hsz hlt))); clear hb2 hk2 hc2 hd2 hg2 hsz hlt k0 z0 z1 zf; have k0 := hi.ka.cell; have z0 := cell_of_row _ w.heap.size 0 _ _ _ hi.row; have z1 := cell_of_row _ w.heap.size 1 _ _ _ hi.row; have zf := fun i => frozen_of_row _ w.heap.size i _ _ hi.row)
      | fail "no call")
  all_goals
    have hput : ∀ (u v : Value), w2.grownBy ((w2.setCell ⟨w.heap.size, 0, none⟩ u).setCell ⟨w.heap.size, 1, none⟩ v) (some w.heap.size) := fun u v => grownBy_tr (grownBy_setB _ _ _ _) (grownBy_setB _ _ _ _)
    have hq := hput (.string (mkS nm)) (.slice p2 bs.length cap2)
    have q0 : ((w2.setCell ⟨w.heap.size, 0, none⟩ (.string (mkS nm))).setCell ⟨w.heap.size, 1, none⟩ (.slice p2 bs.length cap2)).cell? ⟨w.heap.size, 0, none⟩ = some (.string (mkS nm)) := (World.cell?_setCell_other _ _ _ _ (by simp)).trans (World.cell?_setCell_same _ _ _ z0)
    have q1 : ((w2.setCell ⟨w.heap.size, 0, none⟩ (.string (mkS nm))).setCell ⟨w.heap.size, 1, none⟩ (.slice p2 bs.length cap2)).cell? ⟨w.heap.size, 1, none⟩ = some (.slice p2 bs.length cap2) := World.cell?_setCell_same _ _ _ ((World.cell?_setCell_other _ _ _ _ (by simp)).trans z1)
    generalize (w2.setCell ⟨w.heap.size, 0, none⟩ (.string (mkS nm))).setCell ⟨w.heap.size, 1, none⟩ (.slice p2 bs.length cap2) = W5 at hq q0 q1 ⊢
    have HQ := hid (And.intro hq (hi.put (Nat.le_refl _) hcl hq))
    have Hi := hid hi
    clear hput hq hi k0 z0 z1 zf
    go_wp2_with fail
    refine bodyPost_ret (v := .agg #[.string (mkS nm), .slice p2 bs.length cap2]) (by simp [results, Tryz.results40, go_sem, q0, q1]) rfl ?_
    refine ⟨p2, cap2, rfl, H2.out.1.of_block (fun b hb hlt => HQ.out.1.block b hlt (fun e => by cases e; have := H2.out.2.1 _ hb; have := H2.out.2.2.2; omega)), fun b hb => Nat.lt_of_lt_of_le H2.out.2.2.2 (H2.out.2.1 b hb), HQ.out.2.1, Hi.out.nm.left, HQ.out.2.2⟩
end Go.Proofs.YtfkpbgookilhjaaGreatDoor

namespace Go.Proofs.YtfkpbgookilhjaaGreatDoor
set_option linter.unusedSimpArgs false
set_option linter.unusedVariables false
open Go.RowKit

theorem Tryz.info_files : (Tryz.prog.info? 39).map (fun i => (i.zero, i.size, i.bytes)) = some (some (.agg #[.string ⟨#[]⟩, .slice none 0 0]), 2, 40) := by kernel_rfl
theorem un_files : Tryz.prog.underlying 22 = some (.slice 39) := by kernel_rfl

set_option maxHeartbeats 2000000 in
theorem read_files (K r c : Nat) (w : World) (l y : List UInt8) (ms : List FileM) (k : Nat) (hK : KAt w K r) (hKc : K ≠ c) (h : RdAt w r c l k) (hl : l.drop k = lowB ms.length 2 ++ (ms.flatMap FileM.enc ++ y)) (hn : ms.length ≤ 64) (hs : ∀ m ∈ ms, m.name.length ≤ 255 ∧ m.bytes.length ≤ 1048576) :
    Calls Tryz.prog 39 #[.pointer (some ⟨r, 0, none⟩), .int .i64 2, .int .i64 64, .func (.func 40) #[] #[.pointer (some ⟨K, 0, none⟩)]] w fun e w' =>
      ∃ o done, e = .returned o ∧ done.map FileV.m = ms ∧ RdIn fileS 39 2 w w' r c l (k + 2 + (ms.flatMap FileM.enc).length) y o done := by
  have hrc : r < w.heap.size ∧ c < w.heap.size := ⟨(Array.getElem?_eq_some_iff.1 h.box).1, h.cur.lt⟩
  have hw1 : IntKind.i64.wrap (ms.length : Int) = ms.length := IntWalk.i64_in _ (by omega)
  have hd0 : decide ((64 : Int) < (ms.length : Int)) = false := decide_eq_false (by omega)
  have hd0' : decide (64 < ms.length) = false := decide_eq_false (by omega)
  obtain ⟨i0, hi, hz0, hz1, hz2⟩ := info_parts Tryz.info_files
  obtain ⟨x0, x1⟩ := h.cell
  have H := hid (And.intro h (And.intro hl (And.intro hs (And.intro hi (And.intro hz0 (And.intro hz1 hz2))))))
  have HK := hid hK
  clear h hl hs hi hz0 hz1 hz2 hK
  go_enter Tryz.func39, Tryz.ntmps39
  go_wp2_with fail
  refine (rd_number c _ l _ k ms.length 2 _ (by simp) rfl H.out.1.cur H.out.2.1 (by omega)).mono ?_
  rintro e w1 ⟨rfl, hc1, hd1, hg1⟩
  have h1 : RdIn fileS 39 2 w w1 r c l (k + 2) (ms.flatMap FileM.enc ++ y) (.slice none 0 0) [] := ⟨H.out.1.next hc1 hg1, hd1, hg1, OwnL.nil _ _ _ _ _⟩
  have H1 := hid (And.intro h1 (HK.out.next hKc hg1))
  clear h1 hc1 hd1 hg1 x0 x1
  go_wp2_with fail
  go_loopw [8, 30] (fun o i wr => ∃ (n : Nat) (done : List FileV), n ≤ ms.length ∧ i = .int .i64 (n : Int) ∧ done.map FileV.m = ms.take n ∧ RdIn fileS 39 2 w wr r c l (k + 2 + ((ms.take n).flatMap FileM.enc).length) ((ms.drop n).flatMap FileM.enc ++ y) o done ∧ KAt wr K r) (fun _ i _ => ms.length - (intOf i).toNat)
  case atStart => exact ⟨0, [], Nat.zero_le _, rfl, rfl, by simpa using H1.out.1, H1.out.2⟩
  case round =>
    obtain ⟨n, done, hn', rfl, hdm, hr, hk⟩ := hrel
    by_cases hlt : n < ms.length
    · obtain ⟨m, hsn⟩ : ∃ m, ms[n]? = some m := ⟨_, List.getElem?_eq_getElem hlt⟩
      have hmem := List.mem_of_getElem? hsn
      have hsm := H.out.2.2.1 m hmem
      have e1 : (ms.drop n).flatMap FileM.enc ++ y = FileM.enc m ++ ((ms.drop (n + 1)).flatMap FileM.enc ++ y) := by
        obtain ⟨hlt', rfl⟩ := List.getElem?_eq_some_iff.1 hsn
        rw [List.drop_eq_getElem_cons hlt', List.flatMap_cons, List.append_assoc]
      have e2 := flat_snoc FileM.enc hsn
      have e3 : ms.take (n + 1) = ms.take n ++ [m] := by rw [List.take_add_one, hsn]; rfl
      have hl2 := hr.left
      rw [e1] at hl2
      have hdl : done.length = n := by have := congrArg List.length hdm; rw [List.length_map, List.length_take] at this; omega
      obtain ⟨nm, bs⟩ := m
      dsimp only at hsm
      have Hr := hid (And.intro hr (And.intro hk (And.intro hl2 (And.intro e2 (And.intro e3 (And.intro hdm hdl))))))
      clear hr hl2 e1 e2 e3 hsn hmem hk hdm hdl
      go_wp2_with fail
      refine (rd_file K r c _ l nm bs _ _ Hr.out.2.1 hKc Hr.out.1.rd (by rw [Hr.out.2.2.1]; unfold FileM.enc; rw [List.append_assoc]) (by omega) (by omega)).mono ?_
      rintro e w2 ⟨p2, cap2, rfl, hbs2, hnew, hrd, hdr, hg2⟩
      have h2 := Hr.out.1.keep fileS_ok hrc.2 hrd hdr hg2
      have hap := new_apart Hr.out.1.own.own Hr.out.1.by_.size (v := fileS.sl (⟨nm, p2, bs.length, cap2, bs⟩ : FileV)) (fun b hb => Nat.le_of_lt (hnew b hb))
      have hk2 := Hr.out.2.1.next hKc hg2
      have hb2 : Below w2.heap.size w2 (w2.alloc (.cells #[.string (mkS nm), .slice p2 bs.length cap2] 39)) := (Below.refl _ _).alloc (Nat.le_refl _) _
      have h3 := h2.below fileS_ok hrc.2 hb2
      obtain ⟨x0, x1⟩ := h3.rd.cell
      have hrow : (w2.alloc (.cells #[.string (mkS nm), .slice p2 bs.length cap2] 39)).heap[w2.heap.size]? = _ := heap_alloc_new w2 _
      have H2 := hid (And.intro h3 (And.intro hbs2 (And.intro hap (And.intro (hk2.below hb2) (And.intro hrow hb2)))))
      clear hrd hdr hg2 h2 hbs2 hnew hap hk2 h3 hrow hb2
      go_wp2_with fail
      refine (cur_err0 c _ l _ H2.out.1.rd.cur).mono ?_
      rintro e w3 ⟨rfl, hb3⟩
      have hl3 : w2.heap.size < (w2.alloc (.cells #[.string (mkS nm), .slice p2 bs.length cap2] 39)).heap.size := by simp
      have hrow3 := (hb3.block w2.heap.size hl3).trans H2.out.2.2.2.2.1
      have H3 := hid (And.intro (H2.out.1.below fileS_ok hrc.2 hb3) (And.intro (fileS_ok.keep (⟨nm, p2, bs.length, cap2, bs⟩ : FileV) _ _ (fileS_ok.keep (⟨nm, p2, bs.length, cap2, bs⟩ : FileV) _ _ H2.out.2.1 (fun b _ hlt => H2.out.2.2.2.2.2.block b hlt)) (fun b _ hlt => hb3.block b hlt)) (H2.out.2.2.2.1.below hb3)))
      clear hb3 x0 x1 hl3
      have y0 : w3.cell? ⟨w2.heap.size, 0, none⟩ = some (.string (mkS nm)) := cell_of_row _ w2.heap.size 0 _ _ _ hrow3
      have y1 : w3.cell? ⟨w2.heap.size, 1, none⟩ = some (.slice p2 bs.length cap2) := cell_of_row _ w2.heap.size 1 _ _ _ hrow3
      clear hrow3
      obtain ⟨p, cap, rfl⟩ := ownsRow_form H3.out.1.own.own
      go_wp2_with (at_builtin; refine wpList_append_grew _ rfl _ _ _ _ rfl w.heap.size 39 i0 _ 2 40 un_files H.out.2.2.2.1 H.out.2.2.2.2.1 H.out.2.2.2.2.2.1 H.out.2.2.2.2.2.2 rfl (.slice p done.length cap) done.length (done.flatMap fileS.cs) rfl (ownsRow_below H3.out.1.own.own ((Below.refl _ _).alloc (Nat.le_refl _) _)) _ 1 [.string (mkS nm), .slice p2 bs.length cap2] rfl (Src.laid _ un_files [.string (mkS nm), .slice p2 bs.length cap2] 1 rfl (by simp [Value.oneCell']) (0, 0) rfl) (Nat.le_trans (show done.length + 1 ≤ 2000000 by have := Hr.out.2.2.2.2.2.2; omega) (by decide)) (by have := Hr.out.2.2.2.2.2.2; omega) ?c3 ?_)
      case c3 => have := H3.out.1.by_.size; simp; omega
      intro v' w4 hown4 hg4
      have h4 := H3.out.1.push fileS_ok (x := (⟨nm, p2, bs.length, cap2, bs⟩ : FileV)) hrc H3.out.2.1 H2.out.2.2.1 (Grew.under ((Below.refl _ _).alloc (Nat.le_refl _) _) hg4) hown4
      have hk4 : KAt w4 K r := ⟨((Grew.under ((Below.refl _ _).alloc (Nat.le_refl _) _) hg4).block H3.out.2.2.lt (fun e => by have := (World.ownsRow.lt H3.out.1.own.own K e).1; have := HK.out.lt; omega)).trans H3.out.2.2.box⟩
      have H4 := hid (And.intro h4 hk4)
      clear h4 hown4 hg4 hk4
      go_wp2_with fail
      refine ⟨⟨n + 1, done ++ [(⟨nm, p2, bs.length, cap2, bs⟩ : FileV)], by omega, by go_num, ?_, ?_, H4.out.2⟩, by simp [intOf]; omega⟩
      · rw [List.map_append, Hr.out.2.2.2.2.2.1, Hr.out.2.2.2.2.1]; rfl
      · have := H4.out.1
        rwa [show k + 2 + ((ms.take n).flatMap FileM.enc).length + 2 + nm.length + 4 + bs.length = k + 2 + ((ms.take (n + 1)).flatMap FileM.enc).length by rw [Hr.out.2.2.2.1, List.length_append]; have := (show (FileM.enc ⟨nm, bs⟩).length = 6 + nm.length + bs.length from enc_length _); omega] at this
    · have Hr := hid (And.intro hr hdm)
      clear hr hdm hk
      go_wp2_with fail
      go_ret
      obtain ⟨hr, hdm⟩ := Hr.out
      obtain rfl : n = ms.length := by omega
      rw [List.take_of_length_le (Nat.le_refl _)] at hr hdm
      rw [List.drop_of_length_le (Nat.le_refl _)] at hr
      exact ⟨_, _, rfl, hdm, hr⟩

end Go.Proofs.YtfkpbgookilhjaaGreatDoor
