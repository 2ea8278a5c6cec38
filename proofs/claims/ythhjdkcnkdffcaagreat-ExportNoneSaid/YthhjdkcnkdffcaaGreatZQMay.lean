/- The walks of May: the program's and the reference's. -/
import Derived.Test.YthhjdkcnkdffcaaGreatZQMakeM
import Derived.Test.YthhjdkcnkdffcaaGreatShelf
import Derived.Deep.RegionHeld3
namespace Go.Proofs.YthhjdkcnkdffcaaGreat.Nl
set_option linter.unusedSimpArgs false
set_option linter.unusedVariables false
open Go.RowKit Go.Maps

theorem has0 (l : List UInt8) : decide (0 ≤ Lib.indexByte l 0) = decide (nul l < l.length) := by
  rw [indexByte_nul, decide_eq_decide]
  split <;> omega

theorem str_ne (l : List UInt8) : decide (¬ mkS l = ⟨#[]⟩) = !decide (l = []) := by
  have : (mkS l = ⟨#[]⟩) ↔ l = [] := ⟨fun h => by have := congrArg (fun s : ByteArray => s.data.toList) h; simpa [mkS] using this, fun h => by rw [h]; rfl⟩
  simp [this]

/-- What '[]byte(s)' lays, read. -/
theorem bs_bytes (w : World) (l : List UInt8) (cap : Nat) (t : TypeId) (m : Nat × Nat) (hc : l.length ≤ cap) (hm : cap ≤ maxLen) (hl : l.length ≤ 140737488355328) :
    BS (w.alloc (.cells (bytesRow (mkS l) cap) t m)) (.slice (some ⟨w.heap.size, 0, none⟩) (mkS l).size cap) l := by
  refine ⟨_, cap, ?_, hc, ⟨hm, hl⟩, fun _ => ⟨w.heap.size, 0, rfl, fun i x hx => ?_⟩⟩
  · show _ = Value.slice _ l.length _
    congr 1
  · have hi : i < l.length := (List.getElem?_eq_some_iff.1 hx).1
    have hg := bytesRow_at (mkS l) cap i (by simpa [mkS] using hi)
    rw [Nat.zero_add]
    have hb : (w.alloc (.cells (bytesRow (mkS l) cap) t m)).heap[w.heap.size]? = some (.cells (bytesRow (mkS l) cap) t m) := heap_alloc_new _ _
    rw [cell_of_row _ _ i _ _ _ hb, hg]
    have : (mkS l).data[i]'(by simpa [mkS] using hi) = x := by
      have h2 := List.getElem?_eq_some_iff.1 hx
      simpa [mkS] using h2.2
    rw [this]

theorem bs_bytes2 (W : World) (l : List UInt8) (k : Nat) (cap : Nat) (t : TypeId) (m : Nat × Nat) (hk : W.heap.size = k) (hc : l.length ≤ cap) (hm : cap ≤ maxLen) (hl : l.length ≤ 140737488355328) :
    BS (W.alloc (.cells (bytesRow (mkS l) cap) t m)).drew.drew (.slice (some ⟨k, 0, none⟩) l.length cap) l := by
  subst hk
  exact (bs_bytes W l cap t m hc hm hl).heap rfl

/-- w' lies over w. -/
def Under (w w' : World) : Prop := Below w.heap.size w w'
theorem under_drew (w w' : World) : Under w w'.drew = Under w w' := propext ⟨fun h => ⟨h.os, h.tape, h.output, h.size, h.block⟩, fun h => ⟨h.os, h.tape, h.output, h.size, h.block⟩⟩
theorem under_refl (w : World) : Under w w := Below.refl _ _
theorem under_alloc {w w' : World} (h : Under w w') (o : Obj) : Under w (w'.alloc o) := Below.alloc h h.size o

theorem under2 (w : World) (X Y : Obj) : Below w.heap.size w ((w.alloc X).alloc Y).drew.drew := by
  show Under _ _
  rw [under_drew, under_drew]
  exact under_alloc (under_alloc (under_refl w) _) _

set_option maxHeartbeats 2000000 in
set_option maxRecDepth 8000 in
theorem ref_may (w : World) (nm : List UInt8) (sect : Int) (val : Nat) (weak : Bool) :
    Calls Tryz.prog 36 #[.agg #[.string (mkS nm), .int .i64 sect, .int .u64 val, .bool weak]] w fun e w' => e = .returned (.bool (mayM ⟨nm, sect, val, weak⟩)) ∧ Below w.heap.size w w' := by
  have hle := nul_le nm
  by_cases h1 : nm = []
  · subst h1
    have hm : mayM ⟨[], sect, val, weak⟩ = false := by unfold mayM; simp
    rw [hm]
    clear hm
    go_enter Tryz.func36, Tryz.ntmps36
    go_wp2
    go_quiet (fail)
    go_wp2
    go_ret
    exact ⟨rfl, below_drewN ((Below.refl _ _).alloc (Nat.le_refl _) _) _⟩
  have hne : (nm == []) = false := by cases nm <;> simp_all
  have hne2 : nm.isEmpty = false := by cases nm <;> simp_all
  by_cases h2 : 255 < nm.length
  · have hm : mayM ⟨nm, sect, val, weak⟩ = false := by unfold mayM; simp only [decide_eq_false_iff_not]; (try dsimp only); omega
    have hld : decide ((nm.length : Int) ≤ 255) = false := decide_eq_false (by omega)
    rw [hm]
    clear hm
    go_enter Tryz.func36, Tryz.ntmps36
    go_wp2
    go_quiet (fail)
    go_wp2
    go_ret
    exact ⟨rfl, below_drewN ((Below.refl _ _).alloc (Nat.le_refl _) _) _⟩
  have h2' : nm.length ≤ 255 := by omega
  have hld : decide ((nm.length : Int) ≤ 255) = true := decide_eq_true (by omega)
  have hcv := fun (w : World) => run_bytes_of_string (P := Tryz.prog) w 9 27 5 (mkS nm) un_str un_bs8 un_u8
  have hbs := fun (w : World) => bs_bytes w nm (grownCap w (mkS nm).size 0 5) 5
  by_cases h3 : nul nm < nm.length
  · have hm : mayM ⟨nm, sect, val, weak⟩ = false := by unfold mayM; simp only [decide_eq_false_iff_not]; omega
    have htk : (nm.take (nul nm) == nm) = false := by
      rw [beq_eq_false_iff_ne]
      intro h
      have := congrArg List.length h
      rw [List.length_take] at this
      omega
    rw [hm]
    clear hm
    go_enter Tryz.func36, Tryz.ntmps36
    go_wp2
    first
      | go_region_with (go_at_call 54; refine (ref_name _ _ _ _ nm (bs_bytes2 _ nm _ _ _ _ (by simp) (grownCap_ge _ _ _ _) (grownCap_le_maxLen _ _ _ _ (by simp only [maxLen]; omega)) (by omega))).mono ?_; rintro e w' ⟨rfl, rfl⟩)
      | fail "region"
    all_goals go_wp2
    all_goals go_ret
    all_goals exact ⟨rfl, under2 w _ _⟩
  have htk0 : nm.take (nul nm) = nm := List.take_of_length_le (by omega)
  have htk : (nm.take (nul nm) == nm) = true := by rw [htk0]; exact beq_self_eq_true nm
  by_cases h4 : sect < 0
  · have hm : mayM ⟨nm, sect, val, weak⟩ = false := by unfold mayM; simp only [decide_eq_false_iff_not]; omega
    have h4d : decide (0 ≤ sect) = false := decide_eq_false (by omega)
    rw [hm]
    clear hm
    go_enter Tryz.func36, Tryz.ntmps36
    go_wp2
    first
      | go_region_with (go_at_call 54; refine (ref_name _ _ _ _ nm (bs_bytes2 _ nm _ _ _ _ (by simp) (grownCap_ge _ _ _ _) (grownCap_le_maxLen _ _ _ _ (by simp only [maxLen]; omega)) (by omega))).mono ?_; rintro e w' ⟨rfl, rfl⟩)
      | fail "region"
    all_goals go_wp2
    all_goals go_ret
    all_goals exact ⟨rfl, under2 w _ _⟩
  · have hm : mayM ⟨nm, sect, val, weak⟩ = decide (sect ≤ 255) := by
      have hpos : 1 ≤ nm.length := List.length_pos_iff.mpr h1
      unfold mayM; rw [decide_eq_decide]; dsimp only; omega
    have h4d : decide (0 ≤ sect) = true := decide_eq_true (by omega)
    rw [hm]
    clear hm
    go_enter Tryz.func36, Tryz.ntmps36
    go_wp2
    first
      | go_region_with (go_at_call 54; refine (ref_name _ _ _ _ nm (bs_bytes2 _ nm _ _ _ _ (by simp) (grownCap_ge _ _ _ _) (grownCap_le_maxLen _ _ _ _ (by simp only [maxLen]; omega)) (by omega))).mono ?_; rintro e w' ⟨rfl, rfl⟩)
      | fail "region"
    all_goals go_wp2
    all_goals go_ret
    all_goals exact ⟨rfl, under2 w _ _⟩

end Go.Proofs.YthhjdkcnkdffcaaGreat.Nl
