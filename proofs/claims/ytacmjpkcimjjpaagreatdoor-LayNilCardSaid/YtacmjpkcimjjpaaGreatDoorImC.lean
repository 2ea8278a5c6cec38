/- Images by value: image.first, Low, High, of any segments. -/
import Derived.Test.YtacmjpkcimjjpaaGreatDoorImB
import Derived.Test.YtacmjpkcimjjpaaGreatDoorBig
namespace Go.Proofs.YtacmjpkcimjjpaaGreatDoor
set_option linter.unusedSimpArgs false
set_option linter.unusedVariables false
open Go.RowKit

/-- A struct image by value, whose segments are v. -/
structure ImgV (I : Array Value) (v : Value) : Prop where
  size : I.size = 24
  segs : I[4]? = some v

theorem old_img (a : Addr) : loadVar 37 a = loadOld 37 a := rfl
theorem big_img (a : Addr) (w : World) : (loadOld 37 a).run Tryz.prog w = loadRes Tryz.prog 37 a w (rowA w a 24) := loadVar_big Tryz.underlying37 rfl (by kernel_rfl) a w
attribute [local go_sem ↓] old_img
attribute [local go_sem] big_img

theorem SegsAt.alloc {w : World} {v : Value} {l : List Seg} (h : SegsAt w v l) (o : Obj) : SegsAt (w.alloc o) v l := h.below ((Below.refl _ _).alloc (Nat.le_refl _) _)

set_option maxHeartbeats 400000 in
theorem im_first (w : World) (I : Array Value) (v : Value) (l : List Seg) (hI : ImgV I v) (h : SegsAt w v l) : Calls Tryz.prog 55 #[.agg I] w fun e w' => e = .returned (.int .i64 (firstM l)) ∧ Below w.heap.size w w' := by
  obtain ⟨p, cap, rfl⟩ := h.form
  have h1 := h.alloc (.cells I 37)
  have c4 : (w.alloc (.cells I 37)).cell? ⟨w.heap.size, 4, none⟩ = some (.slice p l.length cap) := (cell_of_row _ _ 4 _ _ _ (heap_alloc_new w _)).trans hI.segs
  have H := hid h1
  clear h1 h hI
  go_enter Tryz.func55, Tryz.ntmps55
  go_wp2_with fail
  refine (seg_index _ _ l H.out).mono ?_
  rintro e w1 ⟨rfl, hb⟩
  have Hb := hid (((Below.refl w.heap.size w).alloc (Nat.le_refl _) _).trans (hb.mono (by simp)))
  clear hb
  go_wp2_with fail
  go_ret
  exact ⟨rfl, Hb.out⟩

/-- The lowest address. -/
def lowM (l : List Seg) : Nat := match l.find? (fun s => !holeM s) with | some s => s.addr | none => 0

theorem firstM_spec (l : List Seg) : (firstM l = -1 ∧ lowM l = 0) ∨ ∃ i s, firstM l = ((i : Nat) : Int) ∧ i < l.length ∧ l[i]? = some s ∧ lowM l = s.addr := by
  by_cases h : posL l < l.length
  · refine .inr ⟨posL l, l[posL l], firstM_lt h, h, List.getElem?_eq_getElem h, ?_⟩
    unfold lowM
    have : l.find? (fun s => !holeM s) = some (l[posL l]) := by
      rw [List.find?_eq_some_iff_getElem]
      refine ⟨List.findIdx_getElem (p := fun s : Seg => !holeM s) (xs := l) (w := h), posL l, h, rfl, fun j hj => ?_⟩
      have := List.not_of_lt_findIdx (p := fun s : Seg => !holeM s) (xs := l) hj
      simpa using this
    rw [this]
  · refine .inl ⟨firstM_no h, ?_⟩
    unfold lowM
    have : l.find? (fun s => !holeM s) = none := by
      rw [List.find?_eq_none]
      intro x hx hh
      exact h (List.findIdx_lt_length_of_exists ⟨x, hx, hh⟩)
    rw [this]

set_option maxHeartbeats 400000 in
theorem im_low (w : World) (I : Array Value) (v : Value) (l : List Seg) (hI : ImgV I v) (h : SegsAt w v l) : Calls Tryz.prog 33 #[.agg I] w fun e w' => e = .returned (.int .u64 (lowM l : Int)) ∧ Below w.heap.size w w' := by
  obtain ⟨p, cap, rfl⟩ := h.form
  have hll := h.bound
  have h1 := h.alloc (.cells I 37)
  have hr := rowA_block (heap_alloc_new w (.cells I 37)) hI.size
  have H := hid (And.intro h1 hI)
  clear h1 h hI
  rcases firstM_spec l with ⟨hf, hlo⟩ | ⟨i, s, hf, hil, his, hlo⟩
  · have HF := hid (And.intro hf hlo)
    clear hf hlo
    go_enter Tryz.func33, Tryz.ntmps33
    go_wp2_with fail
    refine (im_first _ I _ l H.out.2 H.out.1).mono ?_
    rintro e w1 ⟨rfl, hb⟩
    rw [HF.out.1]
    have Hb := hid (((Below.refl w.heap.size w).alloc (Nat.le_refl _) _).trans (hb.mono (by simp)))
    clear hb
    go_wp2_with fail
    go_ret
    rw [HF.out.2]
    exact ⟨rfl, Hb.out⟩
  · have hdi : decide ((i : Int) < 0) = false := decide_eq_false (by omega)
    have HF := hid (And.intro hf (And.intro hlo his))
    clear hf hlo his
    go_enter Tryz.func33, Tryz.ntmps33
    go_wp2_with fail
    refine (im_first _ I _ l H.out.2 H.out.1).mono ?_
    rintro e w1 ⟨rfl, hb⟩
    rw [HF.out.1]
    have hbk := (hb.block w.heap.size (by simp)).trans (heap_alloc_new w _)
    have c4 : w1.cell? ⟨w.heap.size, 4, none⟩ = some (.slice p l.length cap) := (cell_of_row _ _ 4 _ _ _ hbk).trans H.out.2.segs
    obtain ⟨b, off, rfl, hcs⟩ := (H.out.1.below hb).at (by omega)
    obtain ⟨x0, x1, x2, x3, x4, x5, x6⟩ := hcs i s HF.out.2.2
    have Hb := hid (((Below.refl w.heap.size w).alloc (Nat.le_refl _) _).trans (hb.mono (by simp)))
    clear hb hbk hcs
    go_wp2_with fail
    go_ret
    rw [HF.out.2.1]
    exact ⟨rfl, Hb.out⟩
end Go.Proofs.YtacmjpkcimjjpaaGreatDoor
