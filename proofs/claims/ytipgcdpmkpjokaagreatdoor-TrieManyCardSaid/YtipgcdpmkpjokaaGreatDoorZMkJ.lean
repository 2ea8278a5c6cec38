/- The test of each export (slices.ContainsFunc), and slices.Clone of exports. -/
import Derived.Test.YtipgcdpmkpjokaaGreatDoorZMkI
import Derived.Test.YtipgcdpmkpjokaaGreatDoorZMkH
import Derived.Test.YtipgcdpmkpjokaaGreatDoorZTMay
namespace Go.Proofs.YtipgcdpmkpjokaaGreatDoor
set_option linter.unusedSimpArgs false
set_option linter.unusedVariables false
open Go.RowKit

/-- The closure of Make. -/
theorem make_1 (w : World) (x : Exp) : Calls Tryz.prog 16 #[.agg x.cells.toArray] w fun e w' => e = .returned (.bool (!mayE x)) ∧ Below w.heap.size w w' := by
  show Calls Tryz.prog 16 #[.agg #[.string (mkS x.name), .int .i64 x.kind, .bool x.weak, .int .u64 (x.value : Int), .int .u64 (x.resolver : Int), .int .u64 (x.ordinal : Int), .string (mkS x.other)]] w _
  go_enter Tryz.func16, Tryz.ntmps16
  go_wp2_with fail
  refine (trie_may _ x).mono ?_
  rintro e w1 ⟨rfl, hb1⟩
  have H := hid hb1
  clear hb1
  go_wp2_with fail
  go_ret
  exact ⟨rfl, belTo (Below.refl _ _) (Nat.le_refl _) (by repeat (first | exact Below.refl _ _ | refine below_drewX ?_ | refine below_drewNX ?_ _ | refine Below.alloc ?_ (by simp) _)) H.out⟩

theorem any_may (w : World) (v : Value) (l : List Exp) (hv : ES w v l) :
    Calls Tryz.prog 15 #[v, .func (.func 16) #[] #[]] w fun e w' => e = .returned (.bool (!l.all mayE)) ∧ Below w.heap.size w w' := by
  have hI := index_may w v l (fun x => !mayE x) hv (fun w' hb x hx => make_1 w' x)
  obtain ⟨z, hz⟩ : ∃ z, z = idxE (fun x => !mayE x) l := ⟨_, rfl⟩
  have hd : decide (0 ≤ z) = !l.all mayE := by
    rw [hz]
    unfold idxE posE
    by_cases h : List.findIdx (fun x => !mayE x) l < l.length
    · rw [if_pos h]
      have h1 : l.all mayE = false := by
        rw [List.findIdx_lt_length] at h
        obtain ⟨x, hx, h2⟩ := h
        rw [List.all_eq_false]
        exact ⟨x, hx, by simpa using h2⟩
      rw [h1, decide_eq_true (by omega)]; rfl
    · rw [if_neg h]
      have h1 : l.all mayE = true := by
        rw [List.findIdx_lt_length] at h
        rw [List.all_eq_true]
        intro x hx
        cases hm : mayE x with
        | true => rfl
        | false => exact absurd ⟨x, hx, by simp [hm]⟩ h
      rw [h1]; rfl
  rw [← hz] at hI
  rw [← hd]
  have HI := hid hI
  clear hI hd hz
  go_enter Tryz.func15, Tryz.ntmps15
  go_wp2_with fail
  refine (HI.out).mono ?_
  rintro e w1 ⟨rfl, hb1⟩
  have H := hid hb1
  clear hb1
  go_wp2_with fail
  go_ret
  exact ⟨rfl, H.out⟩

set_option maxRecDepth 4000 in
/-- A copy of exports. -/
theorem clone_exp (w : World) (p : Addr) (cap : Nat) (l : List Exp) (h : ES w (.slice (some p) l.length cap) l) (hl : l.length ≤ 5000) :
    Calls Tryz.prog 18 #[.slice (some p) l.length cap] w (SortEnd w l) := by
  obtain ⟨ie, hie, hiz, his, hib⟩ := info_parts Tryz.infoExport
  have H := hid (And.intro h (And.intro hie (And.intro hiz (And.intro his hib))))
  have hq : ∀ w : World, (binOp .eql 23 (.slice (some p) l.length cap) (.slice none 0 0)).run Tryz.prog w = .ok (.bool false) w := fun w => Lib.run_eql_slice_nil w _ _ _ _ _ 0 0 Tryz.underlying23
  have ho := own_lit w [] (by simp)
  have HO := hid ho
  have h0 := h.below ((Below.refl _ _).alloc (Nat.le_refl _) (Obj.cells #[] 28))
  have H0 := hid h0
  clear h hie hiz his hib ho h0
  go_enter Tryz.func18, Tryz.ntmps18
  go_wp2_with (at_builtin; refine wpList_append_grew _ rfl _ _ _ _ rfl w.heap.size 28 ie _ 7 72 Tryz.underlying23 H.out.2.1 H.out.2.2.1 H.out.2.2.2.1 H.out.2.2.2.2 rfl _ 0 [] rfl HO.out _ l.length (expCells l) rfl (Src.exps Tryz.underlying23 H0.out) ?_ ?_ ?_ ?_)
  · exact Nat.le_trans (show 0 + l.length ≤ 9000 by omega) (by decide)
  · omega
  · simp
  intro v1 w1 ho1 hg1
  have hb : Below w.heap.size w w1 := (Grew.under ((Below.refl _ _).alloc (Nat.le_refl _) _) hg1).below (Nat.le_refl _) (fun q hq => (HO.out.lt q hq).1)
  have HE := hid (And.intro ho1 hb)
  clear ho1 hb hg1
  go_wp2_with fail
  go_ret
  exact ⟨_, rfl, HE.out.1, HE.out.2⟩
end Go.Proofs.YtipgcdpmkpjokaaGreatDoor
