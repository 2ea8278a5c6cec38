/- The chapter's row of lay; the closed sentence LayNil. -/
import Derived.Test.YtacmjpkcimjjpaaGreatDoorLyG
namespace Go.Proofs.YtacmjpkcimjjpaaGreatDoor
set_option linter.unusedSimpArgs false
set_option linter.unusedVariables false
open Go.RowKit

attribute [local go_sem ↓] old_img old_simg old_cimg
attribute [local go_sem] big_img big_simg big_cimg fullA_last setRow_last rowA_last rowA_older

/-- An image of one kind, some flags, some segments. -/
def imgK (k : Int) (f : Int) (v : Value) : Array Value := #[.int .i64 k, .int .i64 0, .int .u32 f, .string ⟨#[]⟩, v, .slice none 0 0, .int .u64 0, .int .u64 0, .int .u64 0, .int .u64 0, .int .u64 0, .int .u64 0, .int .u64 0, .int .u64 0, .int .u64 0, .int .u64 0, .int .u64 0, .int .u64 0, .int .u64 0, .int .u64 0, .int .u64 0, .int .u64 0, .int .u64 0, .bool false]
theorem imgK_ok (k f : Int) (p : Option Addr) (n c : Nat) : ImgOk (imgK k f (.slice p n c)) := ⟨rfl, by simp [imgK, Value.oneCell']⟩

def segA : Seg := ⟨[97], 4294967296, 8192, 0, 4096, 5, none, 0, 0⟩
def segB : Seg := ⟨[97], 0, 4096, 0, 4096, 5, none, 0, 0⟩

theorem SegsAt.one (w : World) {b : Nat} (s : Seg) (h : w.heap[b]? = some (.cells s.cells 44 (0, 0))) : SegsAt w (.slice (some ⟨b, 0, none⟩) 1 1) [s] := by
  refine ⟨_, _, rfl, Nat.le_refl _, ⟨by decide, by simp⟩, fun _ => ⟨b, 0, rfl, fun i x hx j u hu => ?_⟩⟩
  cases i with
  | zero =>
    simp at hx; subst hx
    rw [show 0 + 0 * 7 + j = j by omega, cell_of_row _ _ j _ _ _ h]; exact hu
  | succ i => simp at hx

def imA (b : Nat) : Img := ⟨imgK 2 2097152 (.slice (some ⟨b, 0, none⟩) 1 1), .slice (some ⟨b, 0, none⟩) 1 1, [segA], 2, 2097152⟩
def imB (b : Nat) : Img := ⟨imgK 6 0 (.slice (some ⟨b + 1 + 1, 0, none⟩) 1 1), .slice (some ⟨b + 1 + 1, 0, none⟩) 1 1, [segB], 6, 0⟩

theorem five (w : World) (o0 o1 o2 o3 o4 : Obj) : (((((w.alloc o0).alloc o1).alloc o2).alloc o3).alloc o4).heap[w.heap.size]? = some o0 ∧ (((((w.alloc o0).alloc o1).alloc o2).alloc o3).alloc o4).heap[w.heap.size + 1 + 1]? = some o2 ∧
    (((((w.alloc o0).alloc o1).alloc o2).alloc o3).alloc o4).heap[w.heap.size + 1 + 1 + 1 + 1]? = some o4 := by
  have e2 : ((w.alloc o0).alloc o1).heap.size = w.heap.size + 1 + 1 := by simp
  have e4 : ((((w.alloc o0).alloc o1).alloc o2).alloc o3).heap.size = w.heap.size + 1 + 1 + 1 + 1 := by simp
  refine ⟨?_, ?_, ?_⟩
  · rw [Below.heap_alloc _ _ _ (by simp <;> omega), Below.heap_alloc _ _ _ (by simp <;> omega), Below.heap_alloc _ _ _ (by simp <;> omega), Below.heap_alloc _ _ _ (by simp), heap_alloc_new]
  · rw [Below.heap_alloc _ _ _ (by simp <;> omega), Below.heap_alloc _ _ _ (by simp), ← e2, heap_alloc_new]
  · rw [← e4, heap_alloc_new]

set_option maxRecDepth 10000 in
theorem two_imgs (w : World) : ImgsAt (((((w.alloc (.cells #[.string ⟨#[97]⟩, .int .u64 4294967296, .int .u64 8192, .int .u64 0, .int .u64 4096, .int .i64 5, .slice none 0 0] 44)).alloc (.cells #[.int .i64 2, .int .i64 0, .int .u32 2097152, .string ⟨#[]⟩, .slice (some ⟨w.heap.size, 0, none⟩) 1 1, .slice none 0 0, .int .u64 0, .int .u64 0, .int .u64 0, .int .u64 0, .int .u64 0, .int .u64 0, .int .u64 0, .int .u64 0, .int .u64 0, .int .u64 0, .int .u64 0, .int .u64 0, .int .u64 0, .int .u64 0, .int .u64 0, .int .u64 0, .int .u64 0, .bool false] 37)).alloc (.cells #[.string ⟨#[97]⟩, .int .u64 0, .int .u64 4096, .int .u64 0, .int .u64 4096, .int .i64 5, .slice none 0 0] 44)).alloc (.cells #[.int .i64 6, .int .i64 0, .int .u32 0, .string ⟨#[]⟩, .slice (some ⟨w.heap.size + 1 + 1, 0, none⟩) 1 1, .slice none 0 0, .int .u64 0, .int .u64 0, .int .u64 0, .int .u64 0, .int .u64 0, .int .u64 0, .int .u64 0, .int .u64 0, .int .u64 0, .int .u64 0, .int .u64 0, .int .u64 0, .int .u64 0, .int .u64 0, .int .u64 0, .int .u64 0, .int .u64 0, .bool false] 37)).alloc (.cells #[.int .i64 2, .int .i64 0, .int .u32 2097152, .string ⟨#[]⟩, .slice (some ⟨w.heap.size, 0, none⟩) 1 1, .slice none 0 0, .int .u64 0, .int .u64 0, .int .u64 0, .int .u64 0, .int .u64 0, .int .u64 0, .int .u64 0, .int .u64 0, .int .u64 0, .int .u64 0, .int .u64 0, .int .u64 0, .int .u64 0, .int .u64 0, .int .u64 0, .int .u64 0, .int .u64 0, .bool false, .int .i64 6, .int .i64 0, .int .u32 0, .string ⟨#[]⟩, .slice (some ⟨w.heap.size + 1 + 1, 0, none⟩) 1 1, .slice none 0 0, .int .u64 0, .int .u64 0, .int .u64 0, .int .u64 0, .int .u64 0, .int .u64 0, .int .u64 0, .int .u64 0, .int .u64 0, .int .u64 0, .int .u64 0, .int .u64 0, .int .u64 0, .int .u64 0, .int .u64 0, .int .u64 0, .int .u64 0, .bool false] 37))
    (.slice (some ⟨w.heap.size + 1 + 1 + 1 + 1, 0, none⟩) 2 2) [imA w.heap.size, imB w.heap.size] := by
  obtain ⟨h0, h2, h4⟩ := five w (.cells #[.string ⟨#[97]⟩, .int .u64 4294967296, .int .u64 8192, .int .u64 0, .int .u64 4096, .int .i64 5, .slice none 0 0] 44) (.cells #[.int .i64 2, .int .i64 0, .int .u32 2097152, .string ⟨#[]⟩, .slice (some ⟨w.heap.size, 0, none⟩) 1 1, .slice none 0 0, .int .u64 0, .int .u64 0, .int .u64 0, .int .u64 0, .int .u64 0, .int .u64 0, .int .u64 0, .int .u64 0, .int .u64 0, .int .u64 0, .int .u64 0, .int .u64 0, .int .u64 0, .int .u64 0, .int .u64 0, .int .u64 0, .int .u64 0, .bool false] 37) (.cells #[.string ⟨#[97]⟩, .int .u64 0, .int .u64 4096, .int .u64 0, .int .u64 4096, .int .i64 5, .slice none 0 0] 44) (.cells #[.int .i64 6, .int .i64 0, .int .u32 0, .string ⟨#[]⟩, .slice (some ⟨w.heap.size + 1 + 1, 0, none⟩) 1 1, .slice none 0 0, .int .u64 0, .int .u64 0, .int .u64 0, .int .u64 0, .int .u64 0, .int .u64 0, .int .u64 0, .int .u64 0, .int .u64 0, .int .u64 0, .int .u64 0, .int .u64 0, .int .u64 0, .int .u64 0, .int .u64 0, .int .u64 0, .int .u64 0, .bool false] 37) (.cells #[.int .i64 2, .int .i64 0, .int .u32 2097152, .string ⟨#[]⟩, .slice (some ⟨w.heap.size, 0, none⟩) 1 1, .slice none 0 0, .int .u64 0, .int .u64 0, .int .u64 0, .int .u64 0, .int .u64 0, .int .u64 0, .int .u64 0, .int .u64 0, .int .u64 0, .int .u64 0, .int .u64 0, .int .u64 0, .int .u64 0, .int .u64 0, .int .u64 0, .int .u64 0, .int .u64 0, .bool false, .int .i64 6, .int .i64 0, .int .u32 0, .string ⟨#[]⟩, .slice (some ⟨w.heap.size + 1 + 1, 0, none⟩) 1 1, .slice none 0 0, .int .u64 0, .int .u64 0, .int .u64 0, .int .u64 0, .int .u64 0, .int .u64 0, .int .u64 0, .int .u64 0, .int .u64 0, .int .u64 0, .int .u64 0, .int .u64 0, .int .u64 0, .int .u64 0, .int .u64 0, .int .u64 0, .int .u64 0, .bool false] 37)
  refine ⟨_, _, rfl, Nat.le_refl _, ⟨by decide, by simp⟩, fun _ => ⟨_, 0, rfl, fun i m hm => ?_⟩⟩
  match i, hm with
  | 0, hm =>
    simp at hm; subst hm
    refine ⟨by simp, rowA_part (I := (imA w.heap.size).I) h4 rfl (by kernel_rfl), SegsAt.one _ segA h0, imgK_ok _ _ _ _ _, rfl, rfl, rfl⟩
  | 1, hm =>
    simp at hm; subst hm
    refine ⟨by simp, rowA_part (I := (imB w.heap.size).I) h4 rfl (by kernel_rfl), SegsAt.one _ segB h2, imgK_ok _ _ _ _ _, rfl, rfl, rfl⟩
  | i + 2, hm => simp at hm

theorem slides_two (b : Nat) : slidesF 65536 0 [imA b, imB b] [] = ([18446744069414649856, 81920], 0, 0) := by kernel_rfl

set_option maxHeartbeats 1000000 in
set_option maxRecDepth 10000 in
theorem ly_known (w : World) : Calls Tryz.prog 7 #[] w fun e w' => e = .returned (.bool true) ∧ Below w.heap.size w w' := by
  have okA := imgK_ok 2 2097152 (some ⟨w.heap.size, 0, none⟩) 1 1
  have okB := imgK_ok 6 0 (some ⟨w.heap.size + 1 + 1, 0, none⟩) 1 1
  unfold imgK at okA okB
  go_enter Tryz.func7, Tryz.ntmps7
  go_wp2_with fail
  refine (ly_slides _ 65536 _ 2 2 [imA w.heap.size, imB w.heap.size] (by exact two_imgs w) rfl (by omega) (by omega) (by omega)).mono ?_
  rintro e w1 ⟨⟨v, rfl, hown⟩, hb⟩
  rw [slides_two] at hown ⊢
  dsimp only at hown ⊢
  obtain ⟨q, cp, rfl⟩ := ownsRow_form hown
  have hq : q ≠ none := by
    intro e
    subst e
    rcases hown.2 with ⟨he, _⟩ | ⟨g, cap, cur, he, _⟩
    · cases he
    · cases he
  obtain ⟨qa, rfl⟩ : ∃ qa, q = some qa := by
    cases q with
    | none => exact absurd rfl hq
    | some qa => exact ⟨qa, rfl⟩
  obtain ⟨g, rfl⟩ : ∃ g, qa = ⟨g, 0, none⟩ := by
    rcases hown.2 with ⟨he, _⟩ | ⟨g, cap, cur, he, _⟩
    · cases he
    · cases he; exact ⟨g, rfl⟩
  have x0 : w1.cell? ⟨g, 0, none⟩ = some (.int .u64 18446744069414649856) := hown.cellAt 0 (by decide)
  have x1 : w1.cell? ⟨g, 1, none⟩ = some (.int .u64 81920) := hown.cellAt 1 (by decide)
  have HB := hid ((((((((Below.refl w.heap.size w).alloc (Nat.le_refl _) _).alloc (by simp) _).alloc (by simp; omega) _).alloc (by simp; omega) _).alloc (by simp; omega) _)).trans (hb.mono (by simp; omega)))
  have dw : IntKind.u64.wrap (65536 - 4294967296) = 18446744069414649856 := by decide
  clear hb hown
  go_wp2_with fail
  go_ret
  exact ⟨rfl, HB.out⟩

def im0 : Img := ⟨imgK 0 0 (.slice none 0 0), .slice none 0 0, [], 0, 0⟩
theorem one_img (w : World) (B : Nat) (hB : w.heap.size = B) : ImgsAt (w.alloc (.cells (imgK 0 0 (.slice none 0 0)) 37)) (.slice (some ⟨B, 0, none⟩) 1 1) [im0] := by
  subst hB
  refine ⟨_, _, rfl, Nat.le_refl _, ⟨by decide, by simp⟩, fun _ => ⟨_, 0, rfl, fun i m hm => ?_⟩⟩
  match i, hm with
  | 0, hm =>
    simp at hm; subst hm
    exact ⟨by simp, rowA_block (heap_alloc_new w _) rfl, SegsAt.nil _, imgK_ok _ _ _ _ _, rfl, rfl, rfl⟩
  | i + 1, hm => simp at hm
theorem slides_one : slidesF 0 0 [im0] [] = ([], 0, 8) := by kernel_rfl

theorem space_new (w : World) : Calls Tryz.prog 8 #[] w fun e w' => (∃ s, e = .returned (.pointer (some ⟨s, 0, none⟩))) ∧ Below w.heap.size w w' := by
  go_enter Tryz.func8, Tryz.ntmps8
  have hmm := @run_makeMap Tryz.prog
  go_wp2_with fail
  go_ret
  exact ⟨⟨_, rfl⟩, ((Below.refl w.heap.size w).alloc (Nat.le_refl _) _).alloc (by simp) _⟩

theorem et_below {w w' : World} (h : ET w) (hb : Below w.heap.size w w') : ET w' := (hb.cell (p := ⟨0, 0, none⟩) (lt_of_cell h)).trans h

set_option maxHeartbeats 2000000 in
set_option maxRecDepth 10000 in
theorem ly_law_nil (w : World) (het : ET w) : Calls Tryz.prog 4 #[] w fun e w' => e = .returned (.bool true) ∧ Below w.heap.size w w' := by
  have H := hid het
  clear het
  go_enter Tryz.func4, Tryz.ntmps4
  go_wp2_with fail
  refine (ly_slides0 _).mono ?_
  rintro e w1 ⟨rfl, rfl⟩
  go_wp2_with fail
  refine (ly_slides1 _ _ _).mono ?_
  rintro e w1 ⟨rfl, rfl⟩
  go_wp2_with fail
  refine (ly_slides _ 0 _ 1 1 [im0] (by exact one_img _ _ (by simp)) rfl (by omega) (by omega) (by omega)).mono ?_
  rintro e w1 ⟨⟨v, rfl, -⟩, hb⟩
  rw [slides_one]
  have hb1 : Below w.heap.size w w1 := (((Below.refl w.heap.size w).alloc (Nat.le_refl _) _).alloc (by simp) _).trans (hb.mono (by simp; omega))
  have H1 := hid (And.intro hb1 (et_below H.out hb1))
  clear hb hb1
  dsimp only
  go_wp2_with fail
  refine (ly_lay_nil _ _ _).mono ?_
  rintro e w1 ⟨rfl, rfl⟩
  go_wp2_with fail
  refine (ly_fits_nil _ _ _).mono ?_
  rintro e w2 ⟨rfl, hb2⟩
  have H2 := hid (And.intro (H1.out.1.trans (hb2.mono H1.out.1.size)) (et_below H1.out.2 hb2))
  clear hb2
  go_wp2_with fail
  refine (space_new _).mono ?_
  rintro e w3 ⟨⟨s3, rfl⟩, hb3⟩
  have H3 := hid (And.intro (H2.out.1.trans (hb3.mono H2.out.1.size)) (et_below H2.out.2 hb3))
  clear hb3
  go_wp2_with fail
  refine (ly_lay_odd _ _ _).mono ?_
  rintro e w4 ⟨rfl, rfl⟩
  go_wp2_with fail
  refine (space_new _).mono ?_
  rintro e w5 ⟨⟨s5, rfl⟩, hb5⟩
  have H5 := hid (And.intro (H3.out.1.trans (hb5.mono H3.out.1.size)) (et_below H3.out.2 hb5))
  clear hb5
  go_wp2_with fail
  refine (lay_nil _ _ H5.out.2).mono ?_
  rintro e w6 ⟨rfl, hb6⟩
  have H6 := hid (H5.out.1.trans (hb6.mono H5.out.1.size))
  clear hb6
  go_wp2_with fail
  refine (ly_known _).mono ?_
  rintro e w7 ⟨rfl, hb7⟩
  have H7 := hid (H6.out.trans (hb7.mono H6.out.size))
  clear hb7
  go_wp2_with fail
  go_ret
  exact ⟨rfl, H7.out⟩
end Go.Proofs.YtacmjpkcimjjpaaGreatDoor
