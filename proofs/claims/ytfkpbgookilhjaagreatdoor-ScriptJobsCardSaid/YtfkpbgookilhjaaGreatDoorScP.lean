/- Files that are read as they were laid. -/
import Derived.Test.YtfkpbgookilhjaaGreatDoorScN
import Derived.Test.YtfkpbgookilhjaaGreatDoorScF
namespace Go.Proofs.YtfkpbgookilhjaaGreatDoor
set_option linter.unusedSimpArgs false
set_option linter.unusedVariables false
open Go.RowKit

def fileS : Shape FileV := ⟨FileV.cells, fun f => .slice f.p f.n f.cap, fun f W => BS W (.slice f.p f.n f.cap) f.bytes⟩
theorem fileS_ok : fileS.Ok := ⟨fun _ _ _ h hb => bs_lt h hb, fun _ _ _ h hk => h.of_block hk⟩

/-- A closure over a reader: the reader's pointer in the block K. -/
structure KAt (W : World) (K r : Nat) : Prop where
  box : W.heap[K]? = some (.cells #[.pointer (some ⟨r, 0, none⟩)] 70 (0, 0))
theorem KAt.lt {W : World} {K r : Nat} (h : KAt W K r) : K < W.heap.size := (Array.getElem?_eq_some_iff.1 h.box).1
theorem KAt.cell {W : World} {K r : Nat} (h : KAt W K r) : W.cell? ⟨K, 0, none⟩ = some (.pointer (some ⟨r, 0, none⟩)) := cell_of_row W K 0 _ _ _ h.box
theorem KAt.next {W W' : World} {K r c : Nat} (h : KAt W K r) (hc : K ≠ c) (hg : W.grownBy W' (some c)) : KAt W' K r := ⟨(hg.block K h.lt (fun e => hc (by cases e; rfl))).trans h.box⟩
theorem KAt.below {W W' : World} {K r : Nat} (h : KAt W K r) (hb : Below W.heap.size W W') : KAt W' K r := ⟨(hb.block K h.lt).trans h.box⟩

/-- What stands while a struct is read into the block X. -/
structure FIn (w W : World) (K r c X : Nat) (l : List UInt8) (k : Nat) (y : List UInt8) (C : Array Value) (t : TypeId) : Prop where
  nm : NmIn w W r c l k y
  ka : KAt W K r
  row : W.heap[X]? = some (.cells C t (0, 0))
theorem FIn.next {w W W' : World} {K r c X : Nat} {l : List UInt8} {k k' : Nat} {y y' : List UInt8} {C : Array Value} {t : TypeId} (h : FIn w W K r c X l k y C t) (hK : K ≠ c) (hX : X ≠ c) (hc : RdAt W' r c l k') (hd : l.drop k' = y') (hg : W.grownBy W' (some c)) : FIn w W' K r c X l k' y' C t :=
  ⟨⟨hc, hd, grownBy_tr h.nm.by_ hg⟩, h.ka.next hK hg, (hg.block X (Array.getElem?_eq_some_iff.1 h.row).1 (fun e => hX (by cases e; rfl))).trans h.row⟩
theorem FIn.start {w : World} {K r c : Nat} {l : List UInt8} {k : Nat} {y : List UInt8} (C : Array Value) (t : TypeId) (hK : KAt w K r) (h : RdAt w r c l k) (hl : l.drop k = y) : FIn w (w.alloc (.cells C t)).drew K r c w.heap.size l k y C t :=
  have hb0 : Below w.heap.size w (w.alloc (.cells C t)) := (Below.refl _ _).alloc (Nat.le_refl _) _
  ⟨⟨(h.below hb0).drew, hl, grownBy_heap (Below.all hb0 _) rfl rfl rfl rfl⟩, ⟨(hK.below hb0).box⟩, heap_alloc_new w _⟩
/-- The struct is stored over: nothing else is. -/
theorem FIn.put {w W W' : World} {K r c X : Nat} {l : List UInt8} {k : Nat} {y : List UInt8} {C : Array Value} {t : TypeId} (h : FIn w W K r c X l k y C t) (hX : w.heap.size ≤ X) (hw : r < w.heap.size ∧ c < w.heap.size) (hg : W.grownBy W' (some X)) : RdAt W' r c l k ∧ w.grownBy W' (some c) := by
  refine ⟨⟨(hg.block r (Array.getElem?_eq_some_iff.1 h.nm.rd.box).1 (fun e => by cases e; omega)).trans h.nm.rd.box, ?_, h.nm.rd.ne⟩, ?_⟩
  · obtain ⟨v, hv, hvc, hk, hcc⟩ := h.nm.rd.cur
    have hcl : c < W.heap.size := h.nm.rd.cur.lt
    refine ⟨v, hv.of_block (fun b hb hlt => hg.block b hlt (fun e => by cases e; have := hvc _ hb; omega)), hvc, hk, (hg.block c hcl (fun e => by cases e; omega)).trans hcc⟩
  · refine ⟨hg.os.trans h.nm.by_.os, hg.tape.trans h.nm.by_.tape, hg.output.trans h.nm.by_.output, Nat.le_trans h.nm.by_.size hg.size, fun b hb hr => (hg.block b (Nat.lt_of_lt_of_le hb h.nm.by_.size) (fun e => by cases e; omega)).trans (h.nm.by_.block b hb hr)⟩

set_option maxHeartbeats 1000000 in
/-- One file. -/
theorem rd_file (K r c : Nat) (w : World) (l nm bs y : List UInt8) (k : Nat) (hK : KAt w K r) (hKc : K ≠ c) (h : RdAt w r c l k) (hl : l.drop k = nmB nm ++ (blB bs ++ y)) (hnm : nm.length < 65536) (hbs : bs.length < 4294967296) :
    Calls Tryz.prog 40 #[.pointer (some ⟨K, 0, none⟩)] w fun e w' =>
      ∃ p' cap', e = .returned (.agg #[.string (mkS nm), .slice p' bs.length cap']) ∧ BS w' (.slice p' bs.length cap') bs ∧ (∀ b, inBlk (.slice p' bs.length cap') b → w.heap.size < b) ∧ RdAt w' r c l (k + 2 + nm.length + 4 + bs.length) ∧ l.drop (k + 2 + nm.length + 4 + bs.length) = y ∧ w.grownBy w' (some c) := by
  have hcl : r < w.heap.size ∧ c < w.heap.size := ⟨(Array.getElem?_eq_some_iff.1 h.box).1, h.cur.lt⟩
  have hX : w.heap.size ≠ c := by omega
  have H := hid (FIn.start #[.string ⟨#[]⟩, .slice none 0 0] 39 hK h hl)
  clear h hl hK
  go_enter Tryz.func40, Tryz.ntmps40
  go_upto_region 1 with fail
  have hi := H.out
  have k0 := hi.ka.cell
  have z0 := cell_of_row _ w.heap.size 0 _ _ _ hi.row
  have z1 := cell_of_row _ w.heap.size 1 _ _ _ hi.row
  have zf := fun i => frozen_of_row _ w.heap.size i _ _ hi.row
  go_region_with
    (first
      | (go_at_call 37; have hq := rd_name r c _ l nm (blB bs ++ y) k hi.nm.rd hi.nm.left hnm; (with_reducible refine hq.mono ?_); clear hq; rintro e w1 ⟨rfl, hc1, hd1, hg1⟩; have hi := hi.next hKc hX hc1 hd1 hg1; clear hc1 hd1 hg1 k0 z0 z1 zf; have k0 := hi.ka.cell; have z0 := cell_of_row _ w.heap.size 0 _ _ _ hi.row; have z1 := cell_of_row _ w.heap.size 1 _ _ _ hi.row; have zf := fun i => frozen_of_row _ w.heap.size i _ _ hi.row)
      | (go_at_call 41; have hq := rd_blob r c _ l bs y _ hi.nm.rd hi.nm.left hbs; (with_reducible refine hq.mono ?_); clear hq; rintro e w2 ⟨p2, cap2, rfl, hb2, hk2, hc2, hd2, hg2⟩; have hsz := hi.nm.by_.size; have hlt := (Array.getElem?_eq_some_iff.1 hi.row).1; have hi := hi.next hKc hX hc2 hd2 hg2; have H2 := hid (And.intro hb2 (And.intro hk2 (And.intro hsz hlt))); clear hb2 hk2 hc2 hd2 hg2 hsz hlt k0 z0 z1 zf; have k0 := hi.ka.cell; have z0 := cell_of_row _ w.heap.size 0 _ _ _ hi.row; have z1 := cell_of_row _ w.heap.size 1 _ _ _ hi.row; have zf := fun i => frozen_of_row _ w.heap.size i _ _ hi.row)
      | fail "no call")
  all_goals
    have hput : ∀ (u v : Value), w2.grownBy ((w2.setCell ⟨w.heap.size, 0, none⟩ u).setCell ⟨w.heap.size, 1, none⟩ v) (some w.heap.size) := fun u v => grownBy_tr (grownBy_setB _ _ _ _) (grownBy_setB _ _ _ _)
    have hq := hput (.string (mkS nm)) (.slice p2 bs.length cap2)
    have q0 : ((w2.setCell ⟨w.heap.size, 0, none⟩ (.string (mkS nm))).setCell ⟨w.heap.size, 1, none⟩ (.slice p2 bs.length cap2)).cell? ⟨w.heap.size, 0, none⟩ = some (.string (mkS nm)) := (World.cell?_setCell_other _ _ _ _ (by simp)).trans (World.cell?_setCell_same _ _ _ z0)
    have q1 : ((w2.setCell ⟨w.heap.size, 0, none⟩ (.string (mkS nm))).setCell ⟨w.heap.size, 1, none⟩ (.slice p2 bs.length cap2)).cell? ⟨w.heap.size, 1, none⟩ = some (.slice p2 bs.length cap2) := World.cell?_setCell_same _ _ _ ((World.cell?_setCell_other _ _ _ _ (by simp)).trans z1)
    generalize (w2.setCell ⟨w.heap.size, 0, none⟩ (.string (mkS nm))).setCell ⟨w.heap.size, 1, none⟩ (.slice p2 bs.length cap2) = W5 at hq q0 q1 ⊢
    have HQ := hid (And.intro hq (hi.put (Nat.le_refl _) hcl hq))
    have Hi := hid hi
    clear hput hq hi k0 z0 z1 zf
    go_wp2_with fail
    refine bodyPost_ret (v := .agg #[.string (mkS nm), .slice p2 bs.length cap2]) (by simp [results, Tryz.results40, go_sem, q0, q1]) rfl ?_
    refine ⟨p2, cap2, rfl, H2.out.1.of_block (fun b hb hlt => HQ.out.1.block b hlt (fun e => by cases e; have := H2.out.2.1 _ hb; have := H2.out.2.2.2; omega)), fun b hb => Nat.lt_of_lt_of_le H2.out.2.2.2 (H2.out.2.1 b hb), HQ.out.2.1, Hi.out.nm.left, HQ.out.2.2⟩
end Go.Proofs.YtfkpbgookilhjaaGreatDoor
