/- The walks of what SymbolNamed's known reaches: an image of one segment. Printed by gen_sgc.py. -/
import Derived.Test.YtdckfcpjdakjaaaDoorSgB
import Derived.Deep.RegionHeld3
import Derived.Deep.RegionWith
import Derived.Test.YtdckfcpjdakjaaaDoorBig
namespace Go.Proofs.YtdckfcpjdakjaaaDoor
set_option linter.unusedSimpArgs false
set_option linter.unusedVariables false
open Go.RowKit

/-- The segment lies in the block b. -/
def SegAt (w : World) (b : Nat) : Prop := w.heap[b]? = some (.cells #[.string ⟨#[116]⟩, .int .u64 4096, .int .u64 4096, .int .u64 0, .int .u64 0, .int .i64 5, .slice none 0 0] 50 (0, 0))
/-- The image that was loaded lies in the block c. -/
def OneAt (w : World) (b c : Nat) : Prop := SegAt w b ∧ w.heap[c]? = some (.cells #[.string ⟨#[109]⟩, .int .i64 0, .int .i64 0, .int .u32 0, .string ⟨#[]⟩, .slice (some ⟨b, 0, none⟩) 1 1, .slice none 0 0, .int .u64 0, .int .u64 0, .int .u64 0, .int .u64 0, .int .u64 0, .int .u64 0, .int .u64 0, .int .u64 0, .int .u64 0, .int .u64 0, .int .u64 0, .int .u64 0, .int .u64 0, .int .u64 0, .int .u64 0, .int .u64 0, .int .u64 0, .bool false, .int .u64 12288, .slice none 0 0] 42 (0, 0))

theorem SegAt.below {w w' : World} {b : Nat} (h : SegAt w b) (hb : Below w.heap.size w w') : SegAt w' b := (hb.block b (Array.getElem?_eq_some_iff.1 h).1).trans h
theorem OneAt.below {w w' : World} {b c : Nat} (h : OneAt w b c) (hb : Below w.heap.size w w') : OneAt w' b c := ⟨h.1.below hb, (hb.block c (Array.getElem?_eq_some_iff.1 h.2).1).trans h.2⟩
theorem SegAt.alloc {w : World} {b : Nat} (h : SegAt w b) (o : Obj) : SegAt (w.alloc o) b := h.below ((Below.refl _ _).alloc (Nat.le_refl _) _)
theorem OneAt.alloc {w : World} {b c : Nat} (h : OneAt w b c) (o : Obj) : OneAt (w.alloc o) b c := h.below ((Below.refl _ _).alloc (Nat.le_refl _) _)

theorem SegAt.cells {w : World} {b : Nat} (h : SegAt w b) : w.cell? ⟨b, 0, none⟩ = some (.string ⟨#[116]⟩) ∧ w.cell? ⟨b, 1, none⟩ = some (.int .u64 4096) ∧ w.cell? ⟨b, 2, none⟩ = some (.int .u64 4096) ∧ w.cell? ⟨b, 3, none⟩ = some (.int .u64 0) ∧ w.cell? ⟨b, 4, none⟩ = some (.int .u64 0) ∧ w.cell? ⟨b, 5, none⟩ = some (.int .i64 5) ∧ w.cell? ⟨b, 6, none⟩ = some (.slice none 0 0) :=
  ⟨cell_of_row _ _ 0 _ _ _ h, cell_of_row _ _ 1 _ _ _ h, cell_of_row _ _ 2 _ _ _ h, cell_of_row _ _ 3 _ _ _ h, cell_of_row _ _ 4 _ _ _ h, cell_of_row _ _ 5 _ _ _ h, cell_of_row _ _ 6 _ _ _ h⟩

theorem hexF_len : ∀ (f u : Nat) (acc : List UInt8), (hexF f u acc).length ≤ acc.length + f + 1
  | 0, u, acc => by simp [hexF]
  | f + 1, u, acc => by
    rw [hexF]
    split
    · simp
    · have := hexF_len f (u / 16) (hexd (u % 16) :: acc)
      simp at this; omega
theorem hexM_len (u : Nat) : (hexM u).length ≤ 17 := by have := hexF_len 16 u []; simpa [hexM] using this
theorem mkS_app (a b : List UInt8) : mkS a ++ mkS b = mkS (a ++ b) := by
  apply ByteArray.ext
  simp [mkS, ByteArray.data_append]
theorem ret_str {a b : ByteArray} (h : a = b) : Ending.returned (.string a) = Ending.returned (.string b) := by rw [h]

set_option maxHeartbeats 400000 in
theorem sg_fmt (w : World) (u : Nat) (hu : u < 2 ^ 64) (h : w.cell? ⟨2, 15, none⟩ = some (.int .u8 4)) :
    Calls Tryd.prog 23 #[.int .u64 u, .int .i64 16] w fun e w' => e = .returned (.string (mkS (hexM u))) ∧ Below w.heap.size w w' := by
  go_enter Tryd.func23, Tryd.ntmps23
  go_wp2_with fail
  refine (fbits_16 _ u hu h).mono ?_
  rintro e w1 ⟨rfl, hb⟩
  have Hb := hid hb
  clear hb h
  go_wp2
  go_ret
  exact ⟨rfl, Hb.out⟩

set_option maxHeartbeats 400000 in
theorem sg_fmt2 (w : World) (u : Nat) (hu : u < 2 ^ 64) (h : w.cell? ⟨2, 15, none⟩ = some (.int .u8 4)) :
    Calls Tryd.prog 20 #[.int .u64 u, .int .i64 16] w fun e w' => e = .returned (.string (mkS (hexM u))) ∧ Below w.heap.size w w' := by
  go_enter Tryd.func20, Tryd.ntmps20
  go_wp2_with fail
  refine (sg_fmt _ u hu h).mono ?_
  rintro e w1 ⟨rfl, hb⟩
  have Hb := hid hb
  clear hb h
  go_wp2
  go_ret
  exact ⟨rfl, Hb.out⟩

set_option maxHeartbeats 400000 in
theorem sg_hex (w : World) (u : Nat) (hu : u < 2 ^ 64) (h : w.cell? ⟨2, 15, none⟩ = some (.int .u8 4)) :
    Calls Tryd.prog 17 #[.int .u64 u] w fun e w' => e = .returned (.string (mkS (48 :: 120 :: hexM u))) ∧ Below w.heap.size w w' := by
  go_enter Tryd.func17, Tryd.ntmps17
  go_wp2_with fail
  refine (sg_fmt2 _ u hu h).mono ?_
  rintro e w1 ⟨rfl, hb⟩
  have Hb := hid hb
  have hl := hexM_len u
  clear hb h
  go_wp2
  go_ret
  exact ⟨ret_str (mkS_app [48, 120] (hexM u)), Hb.out⟩

set_option maxHeartbeats 400000 in
theorem sg_hole (w : World) : Calls Tryd.prog 18 #[.agg #[.string ⟨#[116]⟩, .int .u64 4096, .int .u64 4096, .int .u64 0, .int .u64 0, .int .i64 5, .slice none 0 0]] w fun e w' => e = .returned (.bool false) ∧ Below w.heap.size w w' := by
  go_enter Tryd.func18, Tryd.ntmps18
  go_wp2
  go_ret
  exact ⟨rfl, (Below.refl _ _).alloc (Nat.le_refl _) _⟩

set_option maxHeartbeats 400000 in
theorem sg_first1 (w : World) : Calls Tryd.prog 22 #[.agg #[.string ⟨#[116]⟩, .int .u64 4096, .int .u64 4096, .int .u64 0, .int .u64 0, .int .i64 5, .slice none 0 0]] w fun e w' => e = .returned (.bool true) ∧ Below w.heap.size w w' := by
  go_enter Tryd.func22, Tryd.ntmps22
  go_wp2_with fail
  refine (sg_hole _).mono ?_
  rintro e w1 ⟨rfl, hb⟩
  have Hb := hid (((Below.refl w.heap.size w).alloc (Nat.le_refl _) _).trans (hb.mono (by simp)))
  clear hb
  go_wp2
  go_ret
  exact ⟨rfl, Hb.out⟩

set_option maxHeartbeats 400000 in
theorem sg_one (w : World) : Calls Tryd.prog 9 #[] w fun e w' => e = .returned (.slice (some ⟨w.heap.size + 1, 0, none⟩) 1 1) ∧ OneAt w' w.heap.size (w.heap.size + 1) ∧ Below w.heap.size w w' := by
  go_enter Tryd.func9, Tryd.ntmps9
  go_wp2
  go_ret
  exact ⟨rfl, ⟨heap_alloc2_old w _ _, heap_alloc2_new w _ _⟩, ((Below.refl _ _).alloc (Nat.le_refl _) _).alloc (by simp) _⟩

set_option maxHeartbeats 400000 in
theorem sg_idxseg (w : World) (b : Nat) (h : SegAt w b) : Calls Tryd.prog 21 #[.slice (some ⟨b, 0, none⟩) 1 1, .func (.func 22) #[] #[]] w fun e w' => e = .returned (.int .i64 0) ∧ Below w.heap.size w w' := by
  have H := hid h
  clear h
  go_enter Tryd.func21, Tryd.ntmps21
  go_wp2_with fail
  go_loopw [8] (fun i wr => i = .int .i64 0 ∧ wr = w) (fun _ _ => 0)
  case atStart => exact ⟨rfl, rfl⟩
  case round =>
    obtain ⟨rfl, rfl⟩ := hrel
    obtain ⟨x0, x1, x2, x3, x4, x5, x6⟩ := H.out.cells
    go_wp2_with fail
    refine (sg_first1 _).mono ?_
    rintro e w1 ⟨rfl, hb⟩
    have Hb := hid hb
    clear hb
    go_wp2_with fail
    go_ret
    exact ⟨rfl, Hb.out⟩

/-- A struct image by value, whose one segment lies in the block b. -/
structure ImgIs (I : Array Value) (b : Nat) : Prop where
  size : I.size = 24
  segs : I[4]? = some (.slice (some ⟨b, 0, none⟩) 1 1)

/-- A struct of an image that was loaded, by value. -/
structure LoadIs (L I : Array Value) (b : Nat) : Prop where
  size : L.size = 27
  path : L[0]? = some (.string ⟨#[109]⟩)
  slide : L[25]? = some (.int .u64 12288)
  img : L.extract 1 25 = I
  is : ImgIs I b

theorem old_img (a : Addr) : loadVar 39 a = loadOld 39 a := rfl
theorem old_loaded (a : Addr) : loadVar 42 a = loadOld 42 a := rfl
theorem big_img (a : Addr) (w : World) : (loadOld 39 a).run Tryd.prog w = loadRes Tryd.prog 39 a w (rowA w a 24) := loadVar_big Tryd.underlying39 rfl (by kernel_rfl) a w
theorem big_loaded (a : Addr) (w : World) : (loadOld 42 a).run Tryd.prog w = loadRes Tryd.prog 42 a w (rowA w a 27) := loadVar_big Tryd.underlying42 rfl (by kernel_rfl) a w
attribute [local go_sem ↓] old_img old_loaded
attribute [local go_sem] big_img big_loaded

set_option maxHeartbeats 400000 in
theorem sg_first (w : World) (b : Nat) (I : Array Value) (hI : ImgIs I b) (h : SegAt w b) : Calls Tryd.prog 19 #[.agg I] w fun e w' => e = .returned (.int .i64 0) ∧ Below w.heap.size w w' := by
  have h1 := h.alloc (.cells I 39)
  have c4 : (w.alloc (.cells I 39)).cell? ⟨w.heap.size, 4, none⟩ = some (.slice (some ⟨b, 0, none⟩) 1 1) := (cell_of_row _ _ 4 _ _ _ (heap_alloc_new w _)).trans hI.segs
  have H := hid h1
  clear h1 h hI
  go_enter Tryd.func19, Tryd.ntmps19
  go_wp2_with fail
  refine (sg_idxseg _ b H.out).mono ?_
  rintro e w1 ⟨rfl, hb⟩
  have Hb := hid (((Below.refl w.heap.size w).alloc (Nat.le_refl _) _).trans (hb.mono (by simp)))
  clear hb
  go_wp2_with fail
  go_ret
  exact ⟨rfl, Hb.out⟩

set_option maxHeartbeats 400000 in
theorem sg_low (w : World) (b : Nat) (I : Array Value) (hI : ImgIs I b) (h : SegAt w b) : Calls Tryd.prog 15 #[.agg I] w fun e w' => e = .returned (.int .u64 4096) ∧ Below w.heap.size w w' := by
  have h1 := h.alloc (.cells I 39)
  have hr := rowA_block (heap_alloc_new w (.cells I 39)) hI.size
  have H := hid (And.intro h1 hI)
  clear h1 h hI
  go_enter Tryd.func15, Tryd.ntmps15
  go_wp2_with fail
  refine (sg_first _ b I H.out.2 H.out.1).mono ?_
  rintro e w1 ⟨rfl, hb⟩
  have hbk := (hb.block w.heap.size (by simp)).trans (heap_alloc_new w _)
  have c4 : w1.cell? ⟨w.heap.size, 4, none⟩ = some (.slice (some ⟨b, 0, none⟩) 1 1) := (cell_of_row _ _ 4 _ _ _ hbk).trans H.out.2.segs
  obtain ⟨x0, x1, x2, x3, x4, x5, x6⟩ := (H.out.1.below hb).cells
  have Hb := hid (((Below.refl w.heap.size w).alloc (Nat.le_refl _) _).trans (hb.mono (by simp)))
  clear hb hbk
  go_wp2_with fail
  go_ret
  exact ⟨rfl, Hb.out⟩

set_option maxHeartbeats 800000 in
theorem sg_high (w : World) (b : Nat) (I : Array Value) (hI : ImgIs I b) (h : SegAt w b) : Calls Tryd.prog 14 #[.agg I] w fun e w' => e = .returned (.int .u64 8192) ∧ Below w.heap.size w w' := by
  have h1 := h.alloc (.cells I 39)
  have c4 : (w.alloc (.cells I 39)).cell? ⟨w.heap.size, 4, none⟩ = some (.slice (some ⟨b, 0, none⟩) 1 1) := (cell_of_row _ _ 4 _ _ _ (heap_alloc_new w _)).trans hI.segs
  have H := hid h1
  clear h1 h hI
  go_enter Tryd.func14, Tryd.ntmps14
  go_wp2_with fail
  clear c4
  go_loopw [3, 9] (fun hi i wr => ∃ k : Nat, k ≤ 1 ∧ i = .int .i64 (k : Int) ∧ hi = .int .u64 (8192 * k : Int) ∧ SegAt wr b ∧ Below w.heap.size w wr) (fun _ i _ => 1 - (intOf i).toNat)
  case atStart => exact ⟨0, by omega, rfl, rfl, H.out, (Below.refl _ _).alloc (Nat.le_refl _) _⟩
  case round =>
    obtain ⟨k, hk, rfl, rfl, hs, hb⟩ := hrel
    obtain ⟨x0, x1, x2, x3, x4, x5, x6⟩ := hs.cells
    have hz := hb.size
    have HR := hid (And.intro hs hb)
    clear hs hb
    by_cases h0 : k = 0
    · subst h0
      go_wp2_with fail
      refine (sg_hole _).mono ?_
      rintro e w1 ⟨rfl, hb1⟩
      have hbk := (hb1.block wr.heap.size (by simp)).trans (heap_alloc_new wr _)
      have c1 : w1.cell? ⟨wr.heap.size, 1, none⟩ = some (.int .u64 4096) := cell_of_row _ _ 1 _ _ _ hbk
      have c2 : w1.cell? ⟨wr.heap.size, 2, none⟩ = some (.int .u64 4096) := cell_of_row _ _ 2 _ _ _ hbk
      have hb2 : Below wr.heap.size wr w1 := ((Below.refl wr.heap.size wr).alloc (Nat.le_refl _) _).trans (hb1.mono (by simp))
      have H2 := hid hb2
      clear hb1 hbk hb2
      go_wp2_with fail
      exact ⟨⟨1, by omega, rfl, rfl, HR.out.1.below H2.out, HR.out.2.trans (H2.out.mono hz)⟩, by simp [intOf]⟩
    · obtain rfl : k = 1 := by omega
      go_wp2_with fail
      go_ret
      exact ⟨rfl, HR.out.2⟩

set_option maxHeartbeats 800000 in
theorem sg_begin (w : World) (b : Nat) (L I : Array Value) (hL : LoadIs L I b) (h : SegAt w b) : Calls Tryd.prog 13 #[.agg L] w fun e w' => e = .returned (.int .u64 16384) ∧ Below w.heap.size w w' := by
  have h1 := h.alloc (.cells L 42)
  have hr := rowA_part (heap_alloc_new w (.cells L 42)) hL.is.size hL.img
  have c25 : (w.alloc (.cells L 42)).cell? ⟨w.heap.size, 25, none⟩ = some (.int .u64 12288) := (cell_of_row _ _ 25 _ _ _ (heap_alloc_new w _)).trans hL.slide
  have h2 : SegAt (w.alloc (.cells L 42)).drew b := h1
  have H := hid (And.intro h2 hL)
  clear h1 h hL h2
  go_enter Tryd.func13, Tryd.ntmps13
  go_wp2_with fail
  go_region_held3 (fun w' => rowA w' ⟨w.heap.size, 1, none⟩ 24 = some I ∧ w'.cell? ⟨w.heap.size, 25, none⟩ = some (.int .u64 12288)) (first | (exact ⟨hr1, c25⟩) | (exact ⟨(rowA_drew _ _ _).trans hr, by simp [*]⟩))
    (first
      | (go_at_call 15; (with_reducible refine (sg_low _ b I H.out.2.is H.out.1).mono ?_); rintro e w1 ⟨rfl, hb⟩; have hbk := (hb.block w.heap.size (by simp)).trans (heap_alloc_new w _); have hr1 := rowA_part hbk H.out.2.is.size H.out.2.img; have c25 : w1.cell? ⟨w.heap.size, 25, none⟩ = some (.int .u64 12288) := ((cell_of_row _ _ 25 _ _ _ hbk).trans H.out.2.slide); have Hb := hid (Below.trans (below_drewN ((Below.refl w.heap.size w).alloc (Nat.le_refl _) _) 1) (hb.mono (by simp))); clear hb hbk)
      | fail "no call")
  go_wp2_with fail
  go_ret
  exact ⟨rfl, Hb.out⟩

theorem ret_dec (d : Nat) : Ending.returned (Value.bool (decide ((d : Int) < 4096))) = Ending.returned (Value.bool (decide (d < 4096))) := by
  rw [show decide ((d : Int) < 4096) = decide (d < 4096) from by rw [decide_eq_decide]; omega]

/-- What stands while Of's first closure goes on. -/
structure OfIn (w W : World) (A b a : Nat) (L I : Array Value) : Prop where
  seg : SegAt W b
  below : Below w.heap.size w W
  r0 : rowA W ⟨w.heap.size, 0, none⟩ 27 = some L
  r1 : rowA W ⟨w.heap.size, 1, none⟩ 24 = some I
  cA : W.cell? ⟨A, 0, none⟩ = some (.int .u64 (a : Int))
  lt : w.heap.size < W.heap.size

theorem OfIn.all {w W : World} {A b a : Nat} {L I : Array Value} (h : OfIn w W A b a L I) : rowA W ⟨w.heap.size, 0, none⟩ 27 = some L ∧ rowA W ⟨w.heap.size, 1, none⟩ 24 = some I ∧ W.cell? ⟨A, 0, none⟩ = some (.int .u64 (a : Int)) := ⟨h.r0, h.r1, h.cA⟩
theorem OfIn.next {w W W' : World} {A b a : Nat} {L I : Array Value} (h : OfIn w W A b a L I) (hb : Below W.heap.size W W') : OfIn w W' A b a L I :=
  ⟨h.seg.below hb, h.below.trans (hb.mono h.below.size), rowA_below hb h.lt h.r0, rowA_below hb h.lt h.r1, (hb.cell (p := ⟨A, 0, none⟩) (World.block_lt_of_cell? W _ h.cA)).trans h.cA, Nat.lt_of_lt_of_le h.lt hb.size⟩

set_option maxHeartbeats 2000000 in
theorem sg_of1 (w : World) (A b : Nat) (L I : Array Value) (hL : LoadIs L I b) (h : SegAt w b) (a d : Nat) (hA : w.cell? ⟨A, 0, none⟩ = some (.int .u64 a)) (hd : IntKind.u64.wrap ((a : Int) - 16384) = (d : Int)) :
    Calls Tryd.prog 12 #[.agg L, .pointer (some ⟨A, 0, none⟩)] w fun e w' => e = .returned (.bool (decide (d < 4096))) ∧ Below w.heap.size w w' := by
  have hi : OfIn w (w.alloc (.cells L 42)).drew A b a L I :=
    ⟨h.alloc _, below_drewN ((Below.refl w.heap.size w).alloc (Nat.le_refl _) _) 1, (rowA_drew _ _ _).trans (rowA_block (heap_alloc_new w _) hL.size), (rowA_drew _ _ _).trans (rowA_part (heap_alloc_new w _) hL.is.size hL.img),
      (World.cell?_alloc_past _ _ _ (World.block_lt_of_cell? w _ hA)).trans hA, by simp⟩
  have H := hid (And.intro hL hi)
  clear h hL hA hi
  go_enter Tryd.func12, Tryd.ntmps12
  go_wp2_with fail
  have hi := H.out.2
  go_region_held3 (fun w' => rowA w' ⟨w.heap.size, 0, none⟩ 27 = some L ∧ rowA w' ⟨w.heap.size, 1, none⟩ 24 = some I ∧ w'.cell? ⟨A, 0, none⟩ = some (.int .u64 (a : Int))) (exact hi.all)
    (first
      | (go_at_call 13; (with_reducible refine (sg_begin _ b L I H.out.1 hi.seg).mono ?_); rintro e w1 ⟨rfl, hb⟩; have hi := hi.next hb; clear hb)
      | (go_at_call 14; (with_reducible refine (sg_high _ b I H.out.1.is hi.seg).mono ?_); rintro e w1 ⟨rfl, hb⟩; have hi := hi.next hb; clear hb)
      | (go_at_call 15; (with_reducible refine (sg_low _ b I H.out.1.is hi.seg).mono ?_); rintro e w1 ⟨rfl, hb⟩; have hi := hi.next hb; clear hb)
      | fail "no call")
  all_goals
    have Hi := hid hi.below
    clear hi
    go_wp2_with fail
    go_ret
    exact ⟨ret_dec d, Hi.out⟩

theorem OneAt.is {w : World} {b c : Nat} (h : OneAt w b c) : ∃ L I, LoadIs L I b ∧ w.heap[c]? = some (.cells L 42 (0, 0)) :=
  ⟨#[.string ⟨#[109]⟩, .int .i64 0, .int .i64 0, .int .u32 0, .string ⟨#[]⟩, .slice (some ⟨b, 0, none⟩) 1 1, .slice none 0 0, .int .u64 0, .int .u64 0, .int .u64 0, .int .u64 0, .int .u64 0, .int .u64 0, .int .u64 0, .int .u64 0, .int .u64 0, .int .u64 0, .int .u64 0, .int .u64 0, .int .u64 0, .int .u64 0, .int .u64 0, .int .u64 0, .int .u64 0, .bool false, .int .u64 12288, .slice none 0 0], #[.int .i64 0, .int .i64 0, .int .u32 0, .string ⟨#[]⟩, .slice (some ⟨b, 0, none⟩) 1 1, .slice none 0 0, .int .u64 0, .int .u64 0, .int .u64 0, .int .u64 0, .int .u64 0, .int .u64 0, .int .u64 0, .int .u64 0, .int .u64 0, .int .u64 0, .int .u64 0, .int .u64 0, .int .u64 0, .int .u64 0, .int .u64 0, .int .u64 0, .int .u64 0, .bool false], ⟨by kernel_rfl, by kernel_rfl, by kernel_rfl, by kernel_rfl, ⟨by kernel_rfl, by kernel_rfl⟩⟩, h.2⟩

set_option maxHeartbeats 1000000 in
theorem sg_idxload (w : World) (A b c : Nat) (h : OneAt w b c) (a d : Nat) (hA : w.cell? ⟨A, 0, none⟩ = some (.int .u64 a)) (hd : IntKind.u64.wrap ((a : Int) - 16384) = (d : Int)) :
    Calls Tryd.prog 11 #[.slice (some ⟨c, 0, none⟩) 1 1, .func (.func 12) #[] #[.pointer (some ⟨A, 0, none⟩)]] w fun e w' => e = .returned (.int .i64 (if d < 4096 then 0 else -1)) ∧ Below w.heap.size w w' := by
  obtain ⟨L, I, hL, hc⟩ := h.is
  have hr := rowA_block hc hL.size
  have hseg := h.1
  have H := hid (And.intro hL (And.intro hseg (And.intro hA hd)))
  clear h hL hseg hc hA hd
  go_enter Tryd.func11, Tryd.ntmps11
  go_wp2_with fail
  go_loopw [8] (fun i wr => (i = .int .i64 0 ∧ wr = w) ∨ (i = .int .i64 1 ∧ ¬ d < 4096 ∧ Below w.heap.size w wr)) (fun i _ => 1 - (intOf i).toNat)
  case atStart => exact .inl ⟨rfl, rfl⟩
  case round =>
    rcases hrel with ⟨rfl, rfl⟩ | ⟨rfl, hd4, hb⟩
    · go_wp2_with fail
      refine (sg_of1 _ A b L I H.out.1 H.out.2.1 a d H.out.2.2.1 H.out.2.2.2).mono ?_
      rintro e w1 ⟨rfl, hb⟩
      have Hb := hid hb
      clear hb
      by_cases h4 : d < 4096
      · have hd4 : decide (d < 4096) = true := decide_eq_true h4
        go_wp2_with fail
        go_ret
        first | exact ⟨rfl, Hb.out⟩ | exact ⟨by rw [if_pos h4]; rfl, Hb.out⟩
      · have hd4 : decide (d < 4096) = false := decide_eq_false h4
        go_wp2_with fail
        exact ⟨.inr ⟨rfl, h4, Hb.out⟩, by simp [intOf]⟩
    · have Hb := hid hb
      clear hb
      go_wp2_with fail
      go_ret
      first | exact ⟨rfl, Hb.out⟩ | exact ⟨by rw [if_neg hd4]; rfl, Hb.out⟩

end Go.Proofs.YtdckfcpjdakjaaaDoor
