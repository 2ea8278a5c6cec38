/- The image that chapter 11's laws lay: plain. -/
import Derived.Test.YthhjdkcnkdffcaaGreatZImA
import Derived.Deep.DeepCutAuto
import Derived.Laws.MakeOwn
import Derived.Lib.SliceRun
namespace Go.Proofs.YthhjdkcnkdffcaaGreat
set_option linter.unusedSimpArgs false
set_option linter.unusedVariables false
open Go.RowKit
attribute [local go_sem ↓] old_img old_simg old_cimg
attribute [local go_sem] big_img big_simg big_cimg big_simgP
attribute [local go_sem] fullA_last setRow_last

theorem un_bsP : Tryz.prog.underlying 27 = some (.slice 5) := by kernel_rfl
theorem infoByteP : (Tryz.prog.info? 5).map (fun i => (i.zero, i.size, i.bytes)) = some (some (.int .u8 0), 1, 1) := by kernel_rfl
theorem u8rowP : ∃ i, U8Row Tryz.prog 27 5 i := by
  obtain ⟨i, hi, hz, hs, hb⟩ := info_parts infoByteP
  exact ⟨i, ⟨un_bsP, hi, hz, hs, hb⟩⟩

def zeroP : List UInt8 := List.replicate 4096 0
theorem made_nP (n : Nat) : madeCells #[Value.int .u8 0] n = (u8s (List.replicate n 0)).toArray := by
  apply Array.ext
  · simp [madeCells, u8s]
  · intro i h1 h2
    simp [madeCells, u8s, Nat.mod_one]
theorem made_zeroP : madeCells (Value.int .u8 0).cells 4096 = (u8s zeroP).toArray := made_nP 4096
theorem make_pageP (w : World) : (Instr.makeSlice 27 (.int .i64 4096) (.int .i64 4096)).run Tryz.prog w = .ok (.slice (some ⟨w.heap.size, 0, none⟩) 4096 4096) (w.alloc (.cells (u8s zeroP).toArray 5)) := by
  obtain ⟨i0, hi, hz0, hz1, hz2⟩ := info_parts infoByteP
  have := run_makeSlice (P := Tryz.prog) (w := w) 27 5 i0 (.int .u8 0) un_bsP hi hz0 .i64 .i64 4096 4096 (by decide) (by decide) (by rw [hz1]; decide) (by rw [hz2]; decide) (by decide)
  rw [hz1] at this
  rw [← made_zeroP]
  exact this
theorem zeroP_len : zeroP.length = 4096 := List.length_replicate

/-- The section of the laws' image. -/
def secP : Array Value := #[.string ⟨#[97]⟩, .string ⟨#[95, 95, 84, 69, 88, 84]⟩, .int .u64 4096, .int .u64 8, .int .u64 0, .int .i64 0]
/-- Its segment. -/
def segP (p : Option Addr) : Seg := ⟨[95, 95, 84, 69, 88, 84], 4096, 4096, 0, 4096, 5, p, 1, 1⟩
/-- What is laid for the image. -/
def laidP (w : World) : World := ((((w.alloc (.cells secP 71)).alloc (.cells (segP (some ⟨w.heap.size, 0, none⟩)).cells 74)).alloc (.cells (segP (some ⟨w.heap.size, 0, none⟩)).cells 74)).alloc (.cells #[.string ⟨#[100]⟩, .int .i64 1] 77)).alloc (.cells (imgP 1 1 (some ⟨w.heap.size + 1 + 1, 0, none⟩) 1 1 (some ⟨w.heap.size + 1 + 1 + 1, 0, none⟩)) 38)

theorem laidP_facts (w : World) : (laidP w).heap.size = w.heap.size + 5 ∧ Below w.heap.size w (laidP w) ∧ (laidP w).heap[w.heap.size + 1 + 1]? = some (.cells (segP (some ⟨w.heap.size, 0, none⟩)).cells 74) ∧ (laidP w).heap[w.heap.size + 1 + 1 + 1 + 1]? = some (.cells (imgP 1 1 (some ⟨w.heap.size + 1 + 1, 0, none⟩) 1 1 (some ⟨w.heap.size + 1 + 1 + 1, 0, none⟩)) 38) := by
  obtain ⟨o1, h1⟩ : ∃ o, o = Obj.cells secP 71 := ⟨_, rfl⟩
  obtain ⟨o2, h2⟩ : ∃ o, o = Obj.cells (segP (some ⟨w.heap.size, 0, none⟩)).cells 74 := ⟨_, rfl⟩
  obtain ⟨o3, h3⟩ : ∃ o, o = Obj.cells #[.string ⟨#[100]⟩, .int .i64 1] 77 := ⟨_, rfl⟩
  obtain ⟨o4, h4⟩ : ∃ o, o = Obj.cells (imgP 1 1 (some ⟨w.heap.size + 1 + 1, 0, none⟩) 1 1 (some ⟨w.heap.size + 1 + 1 + 1, 0, none⟩)) 38 := ⟨_, rfl⟩
  have e : laidP w = ((((w.alloc o1).alloc o2).alloc o2).alloc o3).alloc o4 := by rw [h1, h2, h3, h4]; rfl
  rw [e, ← h2, ← h4]
  have s2 : ((w.alloc o1).alloc o2).heap.size = w.heap.size + 1 + 1 := by simp
  have s4 : ((((w.alloc o1).alloc o2).alloc o2).alloc o3).heap.size = w.heap.size + 1 + 1 + 1 + 1 := by simp
  refine ⟨by simp, ?_, ?_, ?_⟩
  · exact (((((Below.refl _ _).alloc (Nat.le_refl _) _).alloc (by simp) _).alloc (by simp; omega) _).alloc (by simp; omega) _).alloc (by simp; omega) _
  · rw [Below.heap_alloc _ _ _ (by simp), Below.heap_alloc _ _ _ (by simp), ← s2]
    exact heap_alloc_new _ _
  · rw [← s4]
    exact heap_alloc_new _ _

theorem ImgOk.set {I : Array Value} (h : ImgOk I) (i : Nat) (v : Value) (hv : v.oneCell' = true) : ImgOk (I.setIfInBounds i v) := by
  refine ⟨by rw [Array.size_setIfInBounds]; exact h.1, ?_⟩
  have h2 := Array.all_eq_true'.1 h.2
  refine Array.all_eq_true'.2 fun x hx => ?_
  rcases Array.mem_or_eq_of_mem_setIfInBounds hx with h3 | h3
  · exact h2 x h3
  · rw [h3]; exact hv

/-- The image with its three spans. -/
def spanI (I : Array Value) (a b c d e f : Nat) : Array Value := (((((I.setIfInBounds 14 (.int .u64 (a : Int))).setIfInBounds 15 (.int .u64 (b : Int))).setIfInBounds 18 (.int .u64 (c : Int))).setIfInBounds 19 (.int .u64 (d : Int))).setIfInBounds 20 (.int .u64 (e : Int))).setIfInBounds 21 (.int .u64 (f : Int))
theorem spanI_ok {I : Array Value} (h : ImgOk I) (a b c d e f : Nat) : ImgOk (spanI I a b c d e f) := (((((h.set 14 _ rfl).set 15 _ rfl).set 18 _ rfl).set 19 _ rfl).set 20 _ rfl).set 21 _ rfl
theorem spanI_at {I : Array Value} (h : I.size = 24) (a b c d e f : Nat) : (spanI I a b c d e f)[4]? = I[4]? ∧ (spanI I a b c d e f)[5]? = I[5]? ∧ (spanI I a b c d e f)[14]? = some (.int .u64 (a : Int)) ∧ (spanI I a b c d e f)[15]? = some (.int .u64 (b : Int)) ∧
    (spanI I a b c d e f)[18]? = some (.int .u64 (c : Int)) ∧ (spanI I a b c d e f)[19]? = some (.int .u64 (d : Int)) ∧ (spanI I a b c d e f)[20]? = some (.int .u64 (e : Int)) ∧ (spanI I a b c d e f)[21]? = some (.int .u64 (f : Int)) := by
  unfold spanI
  refine ⟨?_, ?_, ?_, ?_, ?_, ?_, ?_, ?_⟩ <;> simp [Array.getElem?_setIfInBounds, h]

def isB : Value → Bool
  | .bool _ => true
  | _ => false
theorem bool_last {I : Array Value} (hs : I.size = 24) (h : (I.toList.take 23).all (fun v => !isB v) = true) : ∀ (j : Nat) (b : Bool), I[j]? = some (.bool b) → j = 23 := by
  intro j b hj
  have hlt := (Array.getElem?_eq_some_iff.1 hj).1
  rcases Nat.lt_or_ge j 23 with h1 | h1
  · have h2 : (I.toList.take 23)[j]? = some (.bool b) := by
      rw [List.getElem?_take, if_pos h1]
      simpa using hj
    have h3 := List.all_eq_true.1 h _ (List.mem_of_getElem? h2)
    simp [isB] at h3
  · omega
theorem spanI_bool {w : World} (n c : Nat) (p : Option Addr) (m d : Nat) (q : Option Addr) (a b e f g h : Nat) : ∀ (j : Nat) (x : Bool), (spanI (imgP n c p m d q) a b e f g h)[j]? = some (.bool x) → j = 23 :=
  bool_last (spanI_ok (imgP_ok n c p m d q) a b e f g h).1 (by kernel_rfl)

/-- The laws' image: one segment of 4096 bytes, one section, one dependency; the three spans. -/
structure PlainI (w : World) (I : Array Value) (nt ns nr : Nat) : Prop where
  ok : ImgOk I
  segs : ∃ v q, I[4]? = some v ∧ SegsAt w v [segP q]
  deps : ∃ q, I[5]? = some (.slice q 1 1)
  trie : I[14]? = some (.int .u64 (4096 : Nat)) ∧ I[15]? = some (.int .u64 (nt : Int))
  syms : I[18]? = some (.int .u64 ((4096 + nt : Nat) : Int)) ∧ I[19]? = some (.int .u64 (ns : Int))
  strs : I[20]? = some (.int .u64 ((4096 + nt + ns : Nat) : Int)) ∧ I[21]? = some (.int .u64 (nr : Int))
theorem PlainI.below {w w' : World} {I : Array Value} {nt ns nr : Nat} (h : PlainI w I nt ns nr) (hb : Below w.heap.size w w') : PlainI w' I nt ns nr := by
  obtain ⟨v, q, h1, h2⟩ := h.segs
  exact ⟨h.ok, ⟨v, q, h1, h2.below hb⟩, h.deps, h.trie, h.syms, h.strs⟩

theorem below_drewP {B : Nat} {w w' : World} (h : Below B w w') : Below B w w'.drew := ⟨h.os, h.tape, h.output, h.size, h.block⟩

/-- What plain answers. -/
def PlainEnd (w : World) (t s r : List UInt8) (e : Ending) (w' : World) : Prop :=
  (∃ p c I, e = .returned (.tuple #[.slice p (zeroP ++ t ++ s ++ r).length c, .agg I]) ∧ BS w' (.slice p (zeroP ++ t ++ s ++ r).length c) (zeroP ++ t ++ s ++ r) ∧ PlainI w' I t.length s.length r.length ∧
    (∀ k, inBlk (.slice p (zeroP ++ t ++ s ++ r).length c) k → w.heap.size ≤ k) ∧ (∃ b, I[4]? = some (.slice (some ⟨b, 0, none⟩) 1 1) ∧ w.heap.size ≤ b) ∧ ∀ j b, I[j]? = some (.bool b) → j = 23) ∧ Below w.heap.size w w'

theorem chain_block (W : World) (B : Nat) (I : Array Value) (t : TypeId) (a b c d e f : Nat) (h : W.heap[B]? = some (.cells I t (0, 0))) :
    ((((((W.setCell ⟨B, 14, none⟩ (.int .u64 (a : Int))).setCell ⟨B, 15, none⟩ (.int .u64 (b : Int))).setCell ⟨B, 18, none⟩ (.int .u64 (c : Int))).setCell ⟨B, 19, none⟩ (.int .u64 (d : Int))).setCell ⟨B, 20, none⟩ (.int .u64 (e : Int))).setCell ⟨B, 21, none⟩ (.int .u64 (f : Int))).heap[B]? = some (.cells (spanI I a b c d e f) t (0, 0)) := by
  unfold spanI
  exact heap_setCell_same _ _ _ _ _ _ (heap_setCell_same _ _ _ _ _ _ (heap_setCell_same _ _ _ _ _ _ (heap_setCell_same _ _ _ _ _ _ (heap_setCell_same _ _ _ _ _ _ (heap_setCell_same _ _ _ _ _ _ h)))))
theorem chain_below (W : World) (B : Nat) (u1 u2 u3 u4 u5 u6 : Value) {K : Nat} (hK : K ≤ B) {w : World} (h : Below K w W) :
    Below K w ((((((W.setCell ⟨B, 14, none⟩ u1).setCell ⟨B, 15, none⟩ u2).setCell ⟨B, 18, none⟩ u3).setCell ⟨B, 19, none⟩ u4).setCell ⟨B, 20, none⟩ u5).setCell ⟨B, 21, none⟩ u6) :=
  (((((h.setCell (by exact hK) _).setCell (by exact hK) _).setCell (by exact hK) _).setCell (by exact hK) _).setCell (by exact hK) _).setCell (by exact hK) _

set_option maxHeartbeats 4000000 in
set_option maxRecDepth 100000 in
theorem ex_plain (w : World) (a b c : Option Addr) (na nb nc ca cb cc : Nat) (t s r : List UInt8) (ht : BS w (.slice a na ca) t) (hs : BS w (.slice b nb cb) s) (hr : BS w (.slice c nc cc) r) (h1 : na ≤ 2000000) (h2 : nb ≤ 2000000) (h3 : nc ≤ 2000000) :
    Calls Tryz.prog 9 #[.slice a na ca, .slice b nb cb, .slice c nc cc] w (PlainEnd w t s r) := by
  have e1 := ht.len
  have e2 := hs.len
  have e3 := hr.len
  have hmk := make_pageP
  obtain ⟨Z, hZ⟩ : ∃ Z, Z = zeroP := ⟨_, rfl⟩
  rw [← hZ] at hmk
  have hZl : Z.length = 4096 := by rw [hZ]; exact zeroP_len
  obtain ⟨iu, RU⟩ := u8rowP
  have H := hid (And.intro ht (And.intro hs (And.intro hr (And.intro RU (And.intro e1 (And.intro e2 (And.intro e3 (And.intro hZ hZl))))))))
  clear ht hs hr RU e1 e2 e3 hZ hZl
  go_enter Tryz.func9, Tryz.ntmps9
  go_upto_region 2 with fail
  obtain ⟨I0, hI0⟩ : ∃ I : Array Value, I = #[.int .i64 0, .int .i64 0, .int .u32 0, .string ⟨#[]⟩, .slice none 0 0, .slice none 0 0, .int .u64 0, .int .u64 0, .int .u64 0, .int .u64 0, .int .u64 0, .int .u64 0, .int .u64 0, .int .u64 0, .int .u64 0, .int .u64 0, .int .u64 0, .int .u64 0, .int .u64 0, .int .u64 0, .int .u64 0, .int .u64 0, .int .u64 0, .bool false] := ⟨_, rfl⟩
  rw [← hI0]
  have hO := OB.laid (w.alloc (.cells I0 38)) (e := 5) Z (by have := H.out.2.2.2.2.2.2.2.2; omega)
  rw [H.out.2.2.2.2.2.2.2.2] at hO
  have hs0 : (w.alloc (.cells I0 38)).heap.size = w.heap.size + 1 := by simp
  rw [hs0] at hO
  obtain ⟨W1, hW1⟩ : ∃ W, W = (w.alloc (.cells I0 38)).alloc (.cells (u8s Z).toArray 5) := ⟨_, rfl⟩
  have hb1 : Below w.heap.size w W1 := by rw [hW1]; exact ((Below.refl _ _).alloc (Nat.le_refl _) _).alloc (by simp) _
  have hbox : W1.heap[w.heap.size]? = some (.cells I0 38 (0, 0)) := by
    rw [hW1, Below.heap_alloc _ _ _ (by simp)]
    exact heap_alloc_new w _
  rw [← hW1] at hO
  rw [← hW1]
  obtain ⟨N, hN⟩ : ∃ N, N = w.heap.size := ⟨_, rfl⟩
  rw [← hN] at hO hbox
  rw [← hN]
  have hsz1 : N + 1 ≤ W1.heap.size := by rw [hW1, hN]; simp
  have HX := hid (And.intro hI0 (And.intro hN (And.intro hb1 hbox)))
  have H1 := hid (And.intro hO (And.intro (H.out.1.below hb1) (And.intro (H.out.2.1.below hb1) (H.out.2.2.1.below hb1))))
  clear hI0 hO hs0 hW1 hb1 hbox hN hmk
  have hZl := H.out.2.2.2.2.2.2.2.2
  have e1 := H.out.2.2.2.2.1
  have e2 := H.out.2.2.2.2.2.1
  have e3 := H.out.2.2.2.2.2.2.1
  have He := hid (And.intro hZl (And.intro e1 (And.intro e2 e3)))
  clear hZl e1 e2 e3
  go_wp2_with (at_builtin; refine wpList_bytes H.out.2.2.2.1 _ rfl _ _ _ rfl (N + 1) _ Z rfl H1.out.1 _ t rfl (by have h := He.out.2.1; subst h; exact Src.ofBS un_bsP H1.out.2.1) ?a1 ?a2 ?_)
  case a1 => have h1 := He.out.1; have h2 := He.out.2.1; omega
  case a2 => exact hsz1
  intro v1 W2 ho1 hg1
  have hb2 : Below N w W2 := by
    have h1 := HX.out.2.2.1
    rw [← HX.out.2.1] at h1
    exact h1.trans (hg1.below (by omega) (fun k e => by have := H1.out.1.high k e; omega))
  have hx2 : W2.heap[N]? = some (.cells I0 38 (0, 0)) := (hg1.block (by omega) (fun e => by have := H1.out.1.high N e; omega)).trans HX.out.2.2.2
  have hz2 := hg1.size
  obtain ⟨A1, hA1⟩ : ∃ L, L = Z ++ t := ⟨_, rfl⟩
  rw [← hA1] at ho1
  have hl1 : A1.length = 4096 + na := by rw [hA1, List.length_append, He.out.1, He.out.2.1]
  have H2 := hid (And.intro ho1 (And.intro hb2 (And.intro hx2 (And.intro hA1 hl1))))
  clear ho1 hb2 hx2 hg1 hA1 hl1
  go_wp2_with (at_builtin; refine wpList_bytes H.out.2.2.2.1 _ rfl _ _ _ rfl (N + 1) _ A1 rfl H2.out.1 _ s rfl (by have h := He.out.2.2.1; subst h; exact Src.ofBS un_bsP (H.out.2.1.below (by have h1 := H2.out.2.1; rw [HX.out.2.1] at h1; exact h1))) ?b1 ?b2 ?_)
  case b1 => have h1 := H2.out.2.2.2.2; have h2 := He.out.2.2.1; omega
  case b2 => omega
  intro v2 W3 ho2 hg2
  have hb3 : Below N w W3 := H2.out.2.1.trans (hg2.below (by omega) (fun k e => by have := H2.out.1.high k e; omega))
  have hx3 : W3.heap[N]? = some (.cells I0 38 (0, 0)) := (hg2.block (by omega) (fun e => by have := H2.out.1.high N e; omega)).trans H2.out.2.2.1
  have hz3 := hg2.size
  obtain ⟨A2, hA2⟩ : ∃ L, L = A1 ++ s := ⟨_, rfl⟩
  rw [← hA2] at ho2
  have hl2 : A2.length = 4096 + na + nb := by rw [hA2, List.length_append, H2.out.2.2.2.2, He.out.2.2.1]
  have H3 := hid (And.intro ho2 (And.intro hb3 (And.intro hx3 (And.intro hA2 hl2))))
  clear ho2 hb3 hx3 hg2 hA2 hl2
  go_wp2_with (at_builtin; refine wpList_bytes H.out.2.2.2.1 _ rfl _ _ _ rfl (N + 1) _ A2 rfl H3.out.1 _ r rfl (by have h := He.out.2.2.2; subst h; exact Src.ofBS un_bsP (H.out.2.2.1.below (by have h1 := H3.out.2.1; rw [HX.out.2.1] at h1; exact h1))) ?d1 ?d2 ?_)
  case d1 => have h1 := H3.out.2.2.2.2; have h2 := He.out.2.2.2; omega
  case d2 => omega
  intro v3 W4 ho3 hg3
  have hb4 : Below N w W4 := H3.out.2.1.trans (hg3.below (by omega) (fun k e => by have := H3.out.1.high k e; omega))
  have hx4 : W4.heap[N]? = some (.cells I0 38 (0, 0)) := (hg3.block (by omega) (fun e => by have := H3.out.1.high N e; omega)).trans H3.out.2.2.1
  have hz4 := hg3.size
  obtain ⟨A3, hA3⟩ : ∃ L, L = A2 ++ r := ⟨_, rfl⟩
  rw [← hA3] at ho3
  obtain ⟨p3, c3, hv3⟩ := ho3.form
  subst hv3
  have hl3 : A3.length = 4096 + na + nb + nc := by rw [hA3, List.length_append, H3.out.2.2.2.2, He.out.2.2.2]
  have H4 := hid (And.intro ho3 (And.intro hb4 (And.intro hx4 (And.intro hA3 hl3))))
  clear ho3 hb4 hx4 hg3 hA3 hl3
  go_upto_region 5 with fail
  change Code.wp Tryz.prog _ _ _ (laidP W4)
  obtain ⟨f1, f2, f3, f4⟩ := laidP_facts W4
  obtain ⟨W5, hW5⟩ : ∃ W, W = laidP W4 := ⟨_, rfl⟩
  rw [← hW5] at f1 f2 f3 f4
  rw [← hW5]
  obtain ⟨B, hB⟩ : ∃ B, B = W4.heap.size + 1 + 1 + 1 + 1 := ⟨_, rfl⟩
  rw [← hB] at f4
  rw [← hB]
  have k14 : W5.cell? ⟨B, 14, none⟩ = some (.int .u64 0) := cell_of_row _ B 14 _ _ _ f4
  have k15 : W5.cell? ⟨B, 15, none⟩ = some (.int .u64 0) := cell_of_row _ B 15 _ _ _ f4
  have k18 : W5.cell? ⟨B, 18, none⟩ = some (.int .u64 0) := cell_of_row _ B 18 _ _ _ f4
  have k19 : W5.cell? ⟨B, 19, none⟩ = some (.int .u64 0) := cell_of_row _ B 19 _ _ _ f4
  have k20 : W5.cell? ⟨B, 20, none⟩ = some (.int .u64 0) := cell_of_row _ B 20 _ _ _ f4
  have k21 : W5.cell? ⟨B, 21, none⟩ = some (.int .u64 0) := cell_of_row _ B 21 _ _ _ f4
  have kf := fun i => frozen_of_row _ B i _ _ f4
  have H5 := hid (And.intro f1 (And.intro f2 (And.intro f3 (And.intro f4 (And.intro hB hW5)))))
  clear f1 f2 f3 f4 hB hW5
  go_upto_region 9 with fail
  have c1 : (4096 : Int) = ((4096 : Nat) : Int) := rfl
  have c2 : (4096 : Int) + (na : Int) = ((4096 + na : Nat) : Int) := by omega
  have c3' : (4096 : Int) + ((na : Int) + (nb : Int)) = ((4096 + na + nb : Nat) : Int) := by omega
  have hg1 := chain_block W5 B _ _ 4096 na (4096 + na) nb (4096 + na + nb) nc H5.out.2.2.2.1
  have hg2 : Below B W5 _ := chain_below W5 B (.int .u64 ((4096 : Nat) : Int)) (.int .u64 (na : Int)) (.int .u64 ((4096 + na : Nat) : Int)) (.int .u64 (nb : Int)) (.int .u64 ((4096 + na + nb : Nat) : Int)) (.int .u64 (nc : Int)) (Nat.le_refl B) (Below.refl B W5)
  rw [c2, c3']
  change Code.wp Tryz.prog _ _ _ ((((((W5.setCell ⟨B, 14, none⟩ (.int .u64 ((4096 : Nat) : Int))).setCell ⟨B, 15, none⟩ (.int .u64 (na : Int))).setCell ⟨B, 18, none⟩ (.int .u64 ((4096 + na : Nat) : Int))).setCell ⟨B, 19, none⟩ (.int .u64 (nb : Int))).setCell ⟨B, 20, none⟩ (.int .u64 ((4096 + na + nb : Nat) : Int))).setCell ⟨B, 21, none⟩ (.int .u64 (nc : Int)))
  obtain ⟨W9, hW9⟩ : ∃ W, W = ((((((W5.setCell ⟨B, 14, none⟩ (.int .u64 ((4096 : Nat) : Int))).setCell ⟨B, 15, none⟩ (.int .u64 (na : Int))).setCell ⟨B, 18, none⟩ (.int .u64 ((4096 + na : Nat) : Int))).setCell ⟨B, 19, none⟩ (.int .u64 (nb : Int))).setCell ⟨B, 20, none⟩ (.int .u64 ((4096 + na + nb : Nat) : Int))).setCell ⟨B, 21, none⟩ (.int .u64 (nc : Int))) := ⟨_, rfl⟩
  rw [← hW9] at hg1 hg2
  rw [← hW9]
  clear hW9 k14 k15 k18 k19 k20 k21 kf
  have ok9 := spanI_ok (imgP_ok 1 1 (some ⟨W4.heap.size + 1 + 1, 0, none⟩) 1 1 (some ⟨W4.heap.size + 1 + 1 + 1, 0, none⟩)) 4096 na (4096 + na) nb (4096 + na + nb) nc
  have at9 := spanI_at (imgP_size 1 1 (some ⟨W4.heap.size + 1 + 1, 0, none⟩) 1 1 (some ⟨W4.heap.size + 1 + 1 + 1, 0, none⟩)) 4096 na (4096 + na) nb (4096 + na + nb) nc
  obtain ⟨I9, hI9⟩ : ∃ I, I = spanI (imgP 1 1 (some ⟨W4.heap.size + 1 + 1, 0, none⟩) 1 1 (some ⟨W4.heap.size + 1 + 1 + 1, 0, none⟩)) 4096 na (4096 + na) nb (4096 + na + nb) nc := ⟨_, rfl⟩
  have nb9 := spanI_bool (w := W4) 1 1 (some ⟨W4.heap.size + 1 + 1, 0, none⟩) 1 1 (some ⟨W4.heap.size + 1 + 1 + 1, 0, none⟩) 4096 na (4096 + na) nb (4096 + na + nb) nc
  rw [← hI9] at hg1 ok9 at9 nb9
  clear hI9
  have hb9 : Below W4.heap.size W4 W9 := (H5.out.2.1.trans (hg2.mono (by have := H5.out.2.2.2.2.1; have := H5.out.1; omega)))
  have hN4 : N < W4.heap.size := by omega
  have hx9 : W9.heap[N]? = some (.cells I0 38 (0, 0)) := (hb9.block N hN4).trans H4.out.2.2.1
  have hr9 := rowA_block hg1 ok9.1
  have hf9 := fullA_block hx9 (n := 24) (by rw [HX.out.1]; rfl)
  have hxd : W9.drew.heap[N]? = some (.cells I0 38 (0, 0)) := hx9
  have hfd := fullA_block hxd (n := 24) (by rw [HX.out.1]; rfl)
  have hs9 := setRow_block (I := I9) hxd
  have hr10 := rowA_block hs9 ok9.1
  have H9 := hid (And.intro hg1 (And.intro hg2 (And.intro at9 (And.intro hb9 (And.intro hx9 nb9)))))
  clear hg1 hg2 at9 hb9 hx9 nb9 hs9 hxd
  go_region
  go_wp2_with fail
  have hN := HX.out.2.1
  have hb9 := H9.out.2.2.2.1
  have hbN : Below N w (W9.drew.setRow N I9) := Below.setRow ((H4.out.2.1.trans (hb9.mono (by omega))).trans (below_drewP (Below.refl N W9))) (Nat.le_refl N) I9
  have hG : Grew W9 (W9.drew.setRow N I9) (.slice (some ⟨N, 0, none⟩) 0 0) (.slice (some ⟨N, 0, none⟩) 0 0) := ⟨⟨rfl, rfl, rfl, by rw [setRow_size]; exact Nat.le_refl _, fun k hk hne => setRow_other W9.drew N k I9 (fun e => hne (by rw [e]; rfl))⟩, .inl rfl⟩
  have hO9 := (H4.out.1.below hb9).own hG (fun k hk hk2 => by have h1 := H4.out.1.high k hk; have h2 : N = k := Option.some.inj hk2; omega)
  have hB := H5.out.2.2.2.2.1
  have hsg : (W9.drew.setRow N I9).heap[W4.heap.size + 1 + 1]? = some (.cells (segP (some ⟨W4.heap.size, 0, none⟩)).cells 74 (0, 0)) := by
    rw [setRow_other W9.drew N _ I9 (by omega)]
    exact (H9.out.2.1.block _ (by omega)).trans H5.out.2.2.1
  have hA : A3 = zeroP ++ t ++ s ++ r := by rw [H4.out.2.2.2.1, H3.out.2.2.2.1, H2.out.2.2.2.1, H.out.2.2.2.2.2.2.2.1]
  refine bodyPost_ret (v := .tuple #[.slice p3 A3.length c3, .agg I9]) (by simp [results, Tryz.results9, go_sem, hr10]) rfl ?_
  have e1 := He.out.2.1
  have e2 := He.out.2.2.1
  have e3 := He.out.2.2.2
  obtain ⟨a4, a5, a14, a15, a18, a19, a20, a21⟩ := H9.out.2.2.1
  unfold PlainEnd
  rw [← hA, e1, e2, e3, ← hN]
  refine ⟨⟨p3, c3, I9, rfl, hO9.bs (by have h := H4.out.2.2.2.2; omega), ⟨ok9, ⟨_, some ⟨W4.heap.size, 0, none⟩, a4.trans rfl, ⟨_, _, rfl, Nat.le_refl 1, ⟨by decide, by simp⟩, fun _ => ⟨_, 0, rfl, fun i x hx j y hy => ?_⟩⟩⟩, ⟨_, a5.trans rfl⟩, ⟨a14, a15⟩, ⟨a18, a19⟩, ⟨a20, a21⟩⟩, fun k hk => ?_, ⟨W4.heap.size + 1 + 1, a4.trans rfl, by omega⟩, H9.out.2.2.2.2.2⟩, hbN⟩
  rotate_left 1
  · have h := hO9.high k (by
      cases p3 with
      | none => exact hk.elim
      | some a =>
        have h2 : a.block = k := hk.2
        show some a.block = some k
        rw [h2])
    omega
  have hi : i = 0 := by
    have := (List.getElem?_eq_some_iff.1 hx).1
    simp at this; exact this
  subst hi
  have hx2 : x = segP (some ⟨W4.heap.size, 0, none⟩) := (Option.some.inj hx).symm
  rw [hx2] at hy
  rw [cell_of_row _ _ _ _ _ _ hsg]
  rw [show 0 + 0 * 7 + j = j by omega]
  exact hy
end Go.Proofs.YthhjdkcnkdffcaaGreat

namespace Go.Proofs.YthhjdkcnkdffcaaGreat
set_option linter.unusedSimpArgs false
set_option linter.unusedVariables false
open Go.RowKit

theorem bs_none {w : World} {n cap : Nat} {l : List UInt8} (h : BS w (.slice none n cap) l) : l = [] := by
  obtain ⟨p, c, he, -, -, h3⟩ := h
  cases he
  rcases Classical.em (l = []) with e | e
  · exact e
  · obtain ⟨b, off, he, -⟩ := h3 e
    cases he
theorem bs_nil (w : World) : BS w (.slice none 0 0) [] := ⟨none, 0, rfl, Nat.le_refl _, ⟨Nat.zero_le _, Nat.zero_le _⟩, fun h => absurd rfl h⟩

set_option maxHeartbeats 400000 in
theorem im_within (w : World) (off size all : Nat) (h : off + size ≤ all) (ha : all < 18446744073709551616) : Calls Tryz.prog 56 #[.int .u64 (off : Int), .int .u64 (size : Int), .int .u64 (all : Int)] w fun e w' => e = .returned (.bool true) ∧ w = w' := by
  have h1 : decide ((off : Int) ≤ (all : Int)) = true := decide_eq_true (by omega)
  have h2 : IntKind.u64.wrap ((all : Int) - (off : Int)) = ((all - off : Nat) : Int) := by
    show ((all : Int) - (off : Int)) % 18446744073709551616 = _
    omega
  have h3 : decide (size ≤ all - off) = true := decide_eq_true (by omega)
  go_enter Tryz.func56, Tryz.ntmps56
  go_wp2_with fail
  go_ret
  exact ⟨rfl, rfl⟩

set_option maxHeartbeats 400000 in
theorem clone_bs (w : World) (p : Option Addr) (n cap : Nat) (l : List UInt8) (h : BS w (.slice p n cap) l) (hn : n ≤ 9000000) :
    Calls Tryz.prog 57 #[.slice p n cap] w fun e w' => ∃ q m c, e = .returned (.slice q m c) ∧ BS w' (.slice q m c) l ∧ Below w.heap.size w w' := by
  have qT : ∀ (w : World) (a : Option Addr) (n c n' c' : Nat), (binOp .eql 27 (.slice a n c) (.slice none n' c')).run Tryz.prog w = .ok (.bool a.isNone) w := fun w a n c n' c' => Lib.run_eql_slice_nil w _ _ a n c n' c' un_bsP
  have hln := h.len
  obtain ⟨iu, RU⟩ := u8rowP
  cases p with
  | none =>
    have H := hid (And.intro h hln)
    clear h hln
    go_enter Tryz.func57, Tryz.ntmps57
    go_wp2_with fail
    go_ret
    rw [bs_none H.out.1]
    exact ⟨none, 0, 0, rfl, bs_nil _, Below.refl _ _⟩
  | some a =>
    have hO := OB.laid w (e := 5) [] (by simp)
    have hb0 : Below w.heap.size w (w.alloc (.cells #[] 5)) := (Below.refl _ _).alloc (Nat.le_refl _) _
    have h2 := h.below hb0
    have H := hid (And.intro RU (And.intro hO (And.intro h2 (And.intro hln hb0))))
    clear h RU hO h2 hln hb0
    go_enter Tryz.func57, Tryz.ntmps57
    go_wp2_with (at_builtin; refine wpList_bytes H.out.1 _ rfl _ _ _ rfl w.heap.size _ [] rfl H.out.2.1 _ l rfl (by have h := H.out.2.2.2.1; subst h; exact Src.ofBS un_bsP H.out.2.2.1) ?a1 ?a2 ?_)
    case a1 => have h := H.out.2.2.2.1; simp; omega
    case a2 => simp
    intro v1 w1 ho1 hg1
    have hb : Below w.heap.size w w1 := H.out.2.2.2.2.trans (hg1.below (by simp) (fun k e => by have := H.out.2.1.high k e; omega))
    obtain ⟨q, c, hv⟩ := ho1.form
    subst hv
    have HE := hid (And.intro ho1 hb)
    clear ho1 hb hg1
    go_wp2_with fail
    go_ret
    exact ⟨q, _, c, rfl, HE.out.1.bs (by have h := H.out.2.2.2.1; simp; omega), HE.out.2⟩

theorem size_u8P (w : World) : (Go.sizeOf (Tryz.prog.elem 27)).run Tryz.prog w = .ok 1 w := by kernel_rfl
theorem und_u8P : Tryz.prog.underlying 27 = some (.slice (Tryz.prog.elem 27)) := by kernel_rfl

set_option maxHeartbeats 800000 in
set_option maxRecDepth 4000 in
/-- A part of a slice, in its bounds. -/
theorem im_part (w : World) (p : Option Addr) (n cap : Nat) (l : List UInt8) (off size : Nat) (h : BS w (.slice p n cap) l) (hn : n ≤ 9000000) (hle : off + size ≤ n) :
    Calls Tryz.prog 39 #[.slice p n cap, .agg #[.int .u64 (off : Int), .int .u64 (size : Int)]] w fun e w' => ∃ q m c, e = .returned (.slice q m c) ∧ BS w' (.slice q m c) ((l.drop off).take size) ∧ Below w.heap.size w w' := by
  have hln := h.len
  have hcap := h.cap
  have hb0 : Below w.heap.size w (w.alloc (.cells #[.int .u64 (off : Int), .int .u64 (size : Int)] 36)) := (Below.refl _ _).alloc (Nat.le_refl _) _
  by_cases hz : size = 0
  · subst hz
    have H := hid hb0
    clear h hb0
    go_enter Tryz.func39, Tryz.ntmps39
    go_wp2_with fail
    go_ret
    rw [List.take_zero]
    exact ⟨none, 0, 0, rfl, bs_nil _, H.out⟩
  · have hd : ((size : Int) == 0) = false := by rw [beq_eq_false_iff_ne]; omega
    have hw : IntKind.u64.wrap (n : Int) = (n : Int) := by
      show (n : Int) % 18446744073709551616 = _
      omega
    have hw2 : IntKind.u64.wrap ((off : Int) + (size : Int)) = (off : Int) + (size : Int) := by
      show ((off : Int) + (size : Int)) % 18446744073709551616 = _
      omega
    have hsl : ∀ w : World, (Instr.slice 27 (.slice p n cap) (some (.int .u64 (off : Int))) (some (.int .u64 ((off : Int) + (size : Int)))) (some (.int .u64 ((off : Int) + (size : Int))))).run Tryz.prog w = .ok (.slice (subA p off (off + size)) size size) w := by
      intro w
      rw [run_sub3 (P := Tryz.prog) (w := w) (t := 27) p n cap und_u8P (size_u8P w) .u64 .u64 .u64 (off : Int) ((off : Int) + (size : Int)) ((off : Int) + (size : Int)) (by omega) (by omega) (by omega) (by omega)]
      have e1 : ((off : Int) + (size : Int)).toNat = off + size := by omega
      rw [e1]
      simp only [Int.toNat_natCast, Nat.add_sub_cancel_left]
    subst hln
    have hsb := sub_bs h (lo := off) (hi := off + size) (m := off + size) (by omega) hle (Nat.le_refl _) (by omega)
    rw [Nat.add_sub_cancel_left] at hsb
    have h2 := hsb.below hb0
    have H := hid (And.intro h2 hb0)
    clear h hb0 hsb h2
    go_enter Tryz.func39, Tryz.ntmps39
    go_wp2_with (first | (go_at_call 56; refine (im_within _ off size l.length hle (by omega)).mono ?_; rintro e w1 ⟨rfl, rfl⟩))
    refine (clone_bs _ _ _ _ _ H.out.1 (by omega)).mono ?_
    rintro e w1 ⟨q, m, c, rfl, hv, hb1⟩
    have HE := hid (And.intro hv (H.out.2.trans (hb1.mono (by simp))))
    clear hv hb1
    go_wp2_with fail
    go_ret
    exact ⟨q, m, c, rfl, HE.out.1, HE.out.2⟩
end Go.Proofs.YthhjdkcnkdffcaaGreat
