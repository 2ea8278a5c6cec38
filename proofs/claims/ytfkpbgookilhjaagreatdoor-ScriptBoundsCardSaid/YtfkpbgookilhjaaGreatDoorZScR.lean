/- A reader: a cursor, and whether a count was too great. Numbers, names and blobs that are read as they were laid. -/
import Derived.Test.YtfkpbgookilhjaaGreatDoorZCurB
import Derived.Test.YtfkpbgookilhjaaGreatDoorZAppend
import Derived.Test.YtfkpbgookilhjaaGreatDoorZScM
import Derived.Deep.RegionHeld3
import Derived.Deep.RegionWith
import Derived.Deep.DeepCutAuto
namespace Go.Proofs.YtfkpbgookilhjaaGreatDoor
set_option linter.unusedSimpArgs false
set_option linter.unusedVariables false
open Go.RowKit

theorem un_bsR : Tryz.prog.underlying 30 = some (.slice 5) := by kernel_rfl
theorem un_u8R : Tryz.prog.underlying 5 = some (.int .u8) := by kernel_rfl
theorem un_strR : Tryz.prog.underlying 9 = some .string := by kernel_rfl

set_option maxHeartbeats 400000 in
theorem cur_bytes_ok (c : Nat) (w : World) (l : List UInt8) (k n : Nat) (m : Int) (hm : m = n) (h : CurAt w c l k false false) (hn : k + n ≤ l.length) :
    Calls Tryz.prog 34 #[.pointer (some ⟨c, 0, none⟩), .int .i64 m] w fun e w' =>
      ∃ p' cap', e = .returned (.slice p' n cap') ∧ BS w' (.slice p' n cap') ((l.drop k).take n) ∧ (∀ b, inBlk (.slice p' n cap') b → w.heap.size ≤ b) ∧ CurAt w' c l (k + n) false false ∧ w.grownBy w' (some c) := by
  subst hm
  have H := hid h
  clear h
  go_enter Tryz.func34, Tryz.ntmps34
  go_wp2_with fail
  refine (cur_take_ok c _ l k n _ rfl false H.out hn).mono ?_
  rintro e w1 ⟨p1, c1, rfl, hb1, hnb, hc1, hg1⟩
  have H1 := hid (And.intro hb1 (And.intro hc1 hg1))
  clear hb1 hc1 hg1 hnb
  go_wp2_with fail
  refine (clone_any _ p1 n c1 _ H1.out.1).mono ?_
  rintro e w2 ⟨p2, c2, rfl, hb2, hk2, hbel⟩
  have H2 := hid (And.intro hb2 (And.intro hk2 hbel))
  clear hb2 hk2 hbel
  go_wp2
  go_ret
  exact ⟨p2, c2, rfl, H2.out.1, fun b hb => Nat.le_trans H1.out.2.2.size (H2.out.2.1 b hb), H1.out.2.1.below H2.out.2.2, grownBy_tr H1.out.2.2 (Below.all H2.out.2.2 _)⟩

/-- A reader in the block r: the cursor in the block c stands at k. -/
structure RdAt (w : World) (r c : Nat) (l : List UInt8) (k : Nat) : Prop where
  box : w.heap[r]? = some (.cells #[.pointer (some ⟨c, 0, none⟩), .bool false] 74 (0, 0))
  cur : CurAt w c l k false false
  ne : r ≠ c

theorem RdAt.cell {w : World} {r c : Nat} {l : List UInt8} {k : Nat} (h : RdAt w r c l k) : w.cell? ⟨r, 0, none⟩ = some (.pointer (some ⟨c, 0, none⟩)) ∧ w.cell? ⟨r, 1, none⟩ = some (.bool false) :=
  ⟨cell_of_row w r 0 _ _ _ h.box, cell_of_row w r 1 _ _ _ h.box⟩
theorem RdAt.next {w w' : World} {r c : Nat} {l : List UInt8} {k k' : Nat} (h : RdAt w r c l k) (hc : CurAt w' c l k' false false) (hg : w.grownBy w' (some c)) : RdAt w' r c l k' :=
  ⟨(hg.block r (Array.getElem?_eq_some_iff.1 h.box).1 (fun e => h.ne (by cases e; rfl))).trans h.box, hc, h.ne⟩
theorem RdAt.below {w w' : World} {r c : Nat} {l : List UInt8} {k : Nat} (h : RdAt w r c l k) (hb : Below w.heap.size w w') : RdAt w' r c l k :=
  h.next (h.cur.below hb) (Below.all hb _)

theorem drop_more {l x y : List UInt8} {k : Nat} (h : l.drop k = x ++ y) : l.drop (k + x.length) = y := by
  rw [← List.drop_drop, h, List.drop_left]
theorem drop_len {l x y : List UInt8} {k : Nat} (h : l.drop k = x ++ y) (hk : k ≤ l.length) : k + x.length + y.length = l.length := by
  have := congrArg List.length h
  rw [List.length_drop, List.length_append] at this
  omega
theorem take_low {l y : List UInt8} {k n s : Nat} (h : l.drop k = lowB n s ++ y) : leNat ((l.drop k).take s) = n % 256 ^ s := by
  rw [h, List.take_append_of_le_length (by rw [lowB_length]; omega), List.take_of_length_le (by rw [lowB_length]; omega), leNat_lowB]
theorem CurAt.le {w : World} {c : Nat} {l : List UInt8} {k : Nat} {big f : Bool} (h : CurAt w c l k big f) : k ≤ l.length := by
  obtain ⟨v, hv, hb, hk, hc⟩ := h
  exact hk
theorem CurAt.len {w : World} {c : Nat} {l : List UInt8} {k : Nat} {big f : Bool} (h : CurAt w c l k big f) : l.length ≤ 140737488355328 := by
  obtain ⟨v, hv, hb, hk, hc⟩ := h
  obtain ⟨p, cap, rfl, h1, h2, h3⟩ := hv
  exact h2.2

/-- A number that is read as it was laid. -/
theorem rd_number (c : Nat) (w : World) (l y : List UInt8) (k n s : Nat) (m : Int) (hs : m = 1 ∨ m = 2 ∨ m = 4 ∨ m = 8) (hm : m = s) (h : CurAt w c l k false false) (hl : l.drop k = lowB n s ++ y) (hn : n < 256 ^ s) :
    Calls Tryz.prog 36 #[.pointer (some ⟨c, 0, none⟩), .int .i64 m] w fun e w' =>
      e = .returned (.int .u64 (n : Int)) ∧ CurAt w' c l (k + s) false false ∧ l.drop (k + s) = y ∧ w.grownBy w' (some c) := by
  have hk := drop_len hl h.le
  rw [lowB_length] at hk
  refine (cur_number_ok c w l k s m hs hm h (by omega)).mono ?_
  rintro e w' ⟨rfl, hc, hg⟩
  have e1 := take_low hl
  rw [Nat.mod_eq_of_lt hn] at e1
  have e2 := drop_more hl
  rw [lowB_length] at e2
  exact ⟨by rw [e1], hc, e2, hg⟩

theorem RdAt.drew {w : World} {r c : Nat} {l : List UInt8} {k : Nat} (h : RdAt w r c l k) : RdAt w.drew r c l k := ⟨h.box, h.cur.heap rfl, h.ne⟩
theorem grown_drew {w w' : World} {r : Option Nat} (h : w.drew.grownBy w' r) : w.grownBy w' r := ⟨h.os, h.tape, h.output, h.size, h.block⟩

/-- What stands while a name, or a blob, is read: how much was taken. -/
structure NmIn (w W : World) (r c : Nat) (l : List UInt8) (k : Nat) (y : List UInt8) : Prop where
  rd : RdAt W r c l k
  left : l.drop k = y
  by_ : w.grownBy W (some c)
theorem NmIn.start {w : World} {r c : Nat} {l : List UInt8} {k : Nat} {y : List UInt8} (h : RdAt w r c l k) (hl : l.drop k = y) : NmIn w w.drew r c l k y :=
  ⟨h.drew, hl, ⟨rfl, rfl, rfl, Nat.le_refl _, fun _ _ _ => rfl⟩⟩
theorem NmIn.next {w W W' : World} {r c : Nat} {l : List UInt8} {k k' : Nat} {y y' : List UInt8} (h : NmIn w W r c l k y) (hc : CurAt W' c l k' false false) (hd : l.drop k' = y') (hg : W.grownBy W' (some c)) : NmIn w W' r c l k' y' :=
  ⟨h.rd.next hc hg, hd, grownBy_tr h.by_ hg⟩

set_option maxHeartbeats 1000000 in
/-- A name. -/
theorem rd_name (r c : Nat) (w : World) (l s y : List UInt8) (k : Nat) (h : RdAt w r c l k) (hl : l.drop k = nmB s ++ y) (hs : s.length < 65536) :
    Calls Tryz.prog 37 #[.pointer (some ⟨r, 0, none⟩)] w fun e w' =>
      e = .returned (.string (mkS s)) ∧ RdAt w' r c l (k + 2 + s.length) ∧ l.drop (k + 2 + s.length) = y ∧ w.grownBy w' (some c) := by
  have hl2 : l.drop k = lowB s.length 2 ++ (s ++ y) := by rw [hl, nmB, List.append_assoc]
  have hw : IntKind.i64.wrap (s.length : Int) = s.length := IntWalk.i64_in _ (by omega)
  have H := hid (NmIn.start h hl2)
  have Hw := hid hw
  clear h hl hl2 hw
  go_enter Tryz.func37, Tryz.ntmps37
  go_upto_region 1 with fail
  have hi := H.out
  have x0 := hi.rd.cell.1
  go_region_with
    (first
      | (go_at_call 36; have hq := rd_number c _ l (s ++ y) k s.length 2 2 (by simp) rfl hi.rd.cur hi.left (by omega); (with_reducible refine hq.mono ?_); clear hq; rintro e w1 ⟨rfl, hc1, hd1, hg1⟩; have hi := hi.next hc1 hd1 hg1; have x0 := hi.rd.cell.1; clear hc1 hd1 hg1)
      | (go_at_call 34; have hq := cur_bytes_ok c _ l (k + 2) s.length _ Hw.out hi.rd.cur (by have := drop_len hi.left hi.rd.cur.le; omega); (with_reducible refine hq.mono ?_); clear hq; rintro e w2 ⟨p2, cap2, rfl, hb2, hk2, hc2, hg2⟩; rw [hi.left, List.take_left] at hb2; have hts := run_toString (P := Tryz.prog) (dst := 9) _ _ _ un_bsR un_u8R un_strR hb2; have hi := hi.next hc2 (drop_more hi.left) hg2; clear hb2 hk2 hc2 hg2)
      | fail "no call")
  all_goals
    go_wp2_with fail
    go_ret
    exact ⟨rfl, hi.rd, hi.left, hi.by_⟩

set_option maxHeartbeats 1000000 in
/-- A blob. -/
theorem rd_blob (r c : Nat) (w : World) (l s y : List UInt8) (k : Nat) (h : RdAt w r c l k) (hl : l.drop k = blB s ++ y) (hs : s.length < 4294967296) :
    Calls Tryz.prog 41 #[.pointer (some ⟨r, 0, none⟩)] w fun e w' =>
      ∃ p' cap', e = .returned (.slice p' s.length cap') ∧ BS w' (.slice p' s.length cap') s ∧ (∀ b, inBlk (.slice p' s.length cap') b → w.heap.size ≤ b) ∧ RdAt w' r c l (k + 4 + s.length) ∧ l.drop (k + 4 + s.length) = y ∧ w.grownBy w' (some c) := by
  have hl2 : l.drop k = lowB s.length 4 ++ (s ++ y) := by rw [hl, blB, List.append_assoc]
  have hw : IntKind.i64.wrap (s.length : Int) = s.length := IntWalk.i64_in _ (by omega)
  have H := hid (NmIn.start h hl2)
  have Hw := hid hw
  clear h hl hl2 hw
  go_enter Tryz.func41, Tryz.ntmps41
  go_upto_region 1 with fail
  have hi := H.out
  go_region_held3 (fun W => W.cell? ⟨r, 0, none⟩ = some (.pointer (some ⟨c, 0, none⟩))) (exact hi.rd.cell.1)
    (first
      | (go_at_call 36; have hq := rd_number c _ l (s ++ y) k s.length 4 4 (by simp) rfl hi.rd.cur hi.left (by omega); (with_reducible refine hq.mono ?_); clear hq; rintro e w1 ⟨rfl, hc1, hd1, hg1⟩; have hi := hi.next hc1 hd1 hg1; clear hc1 hd1 hg1)
      | (go_at_call 34; have hq := cur_bytes_ok c _ l (k + 4) s.length _ Hw.out hi.rd.cur (by have := drop_len hi.left hi.rd.cur.le; omega); (with_reducible refine hq.mono ?_); clear hq; rintro e w2 ⟨p2, cap2, rfl, hb2, hk2, hc2, hg2⟩; rw [hi.left, List.take_left] at hb2; have hk2 := fun b hb => Nat.le_trans hi.by_.size (hk2 b hb); have hi := hi.next hc2 (drop_more hi.left) hg2; have H2 := hid (And.intro hb2 hk2); clear hb2 hk2 hc2 hg2)
      | fail "no call")
  all_goals
    go_wp2_with fail
    go_ret
    exact ⟨p2, cap2, rfl, H2.out.1, H2.out.2, hi.rd, hi.left, hi.by_⟩
end Go.Proofs.YtfkpbgookilhjaaGreatDoor
