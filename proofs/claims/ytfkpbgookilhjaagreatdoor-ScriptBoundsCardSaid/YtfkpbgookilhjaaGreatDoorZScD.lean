/- The reference's May. -/
import Derived.Test.YtfkpbgookilhjaaGreatDoorZScC
import Derived.Deep.DeepCutAuto
namespace Go.Proofs.YtfkpbgookilhjaaGreatDoor
set_option linter.unusedSimpArgs false
set_option linter.unusedVariables false
open Go.RowKit

theorem any_more {α : Type} {t : α → Bool} {l : List α} {k : Nat} {s : α} (hs : l[k]? = some s) (h : (l.take k).any t = false) (ht : t s = false) : (l.take (k + 1)).any t = false := by
  rw [List.take_add_one, hs, List.any_append, h]
  simp [ht]
theorem any_one {α : Type} {t : α → Bool} {l : List α} {k : Nat} {s : α} (hs : l[k]? = some s) (ht : t s = true) : l.any t = true :=
  List.any_eq_true.2 ⟨s, List.mem_of_getElem? hs, ht⟩
theorem any_all {α : Type} {t : α → Bool} {l : List α} {k : Nat} (h : (l.take k).any t = false) (hk : l.length ≤ k) : l.any t = false := by
  rwa [List.take_of_length_le hk] at h

set_option maxHeartbeats 4000000 in
theorem rf_may (w : World) (j : JobV) (h : JobAt w j) : Calls Tryz.prog 9 #[.agg j.cells] w fun e w' => e = .returned (.bool (mayJ j.m)) ∧ Below w.heap.size w w' := by
  rw [mayJ_V h]
  have hb0 := (Below.refl w.heap.size w).alloc (Nat.le_refl _) (.cells j.cells 27)
  have hx0 := JobBox.new w j
  have H0 := hid (And.intro hb0 (And.intro hx0 h))
  clear h hb0 hx0
  show Calls Tryz.prog 9 #[.agg #[.slice j.fp j.fs.length j.fc, .string (mkS j.main), .slice j.ip j.ins.length j.ic, .int .i64 j.arch, .int .u64 (j.base : Int), .bool j.flat]] w _
  have ha : ((j.arch == 1) = true ∧ (j.arch == 2) = false) ∨ ((j.arch == 1) = false ∧ (j.arch == 2) = true) ∨ ((j.arch == 1) = false ∧ (j.arch == 2) = false) := by
    by_cases h1 : j.arch = 1
    · rw [h1]; exact .inl ⟨rfl, rfl⟩
    · by_cases h2 : j.arch = 2
      · rw [h2]; exact .inr (.inl ⟨rfl, rfl⟩)
      · exact .inr (.inr ⟨by simpa using h1, by simpa using h2⟩)
  have hh : headV j = ((j.arch == 1 || j.arch == 2) && decide (j.fs.length ≤ 64) && decide (j.ins.length ≤ 64) && decide (j.main.length ≤ 255)) := rfl
  obtain ⟨Hd, hHd⟩ : ∃ b, b = headV j := ⟨_, rfl⟩
  obtain ⟨s1, hs1⟩ : ∃ b, b = j.ins.any longS := ⟨_, rfl⟩
  obtain ⟨s2, hs2⟩ : ∃ b, b = j.fs.any longV := ⟨_, rfl⟩
  rw [← hHd] at hh ⊢
  rw [← hs1, ← hs2]
  have HR := hid (And.intro hh (And.intro hs1 hs2))
  clear hh hHd hs1 hs2
  rcases ha with ⟨a1, a2⟩ | ⟨a1, a2⟩ | ⟨a1, a2⟩
  · have n1 : (j.arch != 1) = false := by unfold bne; rw [a1]; rfl
    have n2 : (j.arch != 2) = true := by unfold bne; rw [a2]; rfl
    have HA := hid (And.intro a1 a2)
    clear a1 a2
    by_cases hf : j.fs.length ≤ 64
    · have df1 : decide ((64 : Int) < (j.fs.length : Int)) = false := decide_eq_false (by omega)
      have df2 : decide (64 < j.fs.length) = false := decide_eq_false (by omega)
      by_cases hi : j.ins.length ≤ 64
      · have di1 : decide ((64 : Int) < (j.ins.length : Int)) = false := decide_eq_false (by omega)
        have di2 : decide (64 < j.ins.length) = false := decide_eq_false (by omega)
        by_cases hm : j.main.length ≤ 255
        · have dm1 : decide ((255 : Int) < (j.main.length : Int)) = false := decide_eq_false (by omega)
          have dm2 : decide (255 < j.main.length) = false := decide_eq_false (by omega)
          go_enter Tryz.func9, Tryz.ntmps9
          go_upto_region 3 with fail
          have hyes : Hd = true := by rw [HR.out.1]; simp [HA.out.1, HA.out.2, hf, hi, hm]
          have HY := hid hyes
          clear hyes hm
          go_wp2_with fail
          go_loopw [3] (fun t wr => ∃ k : Nat, k ≤ j.ins.length ∧ t = .int .i64 (k : Int) ∧ (j.ins.take k).any longS = false ∧ Below w.heap.size w wr ∧ JobBox wr w.heap.size j) (fun t _ => j.ins.length - (intOf t).toNat)
          case atStart => exact ⟨0, Nat.zero_le _, rfl, rfl, H0.out.1, H0.out.2.1⟩
          case round =>
            obtain ⟨k, hk, rfl, hany, hb, hx⟩ := hrel
            obtain ⟨x0, x1, x2, x3, x4, x5⟩ := hx.at
            by_cases hlt : k < j.ins.length
            · obtain ⟨s, hs⟩ : ∃ s, j.ins[k]? = some s := ⟨_, List.getElem?_eq_getElem hlt⟩
              obtain ⟨g, off, hip, y0⟩ := StrsAt.cell (RowsAt.below H0.out.2.2.ins hb) hs
              rw [hip] at x2
              by_cases hl : s.length ≤ 255
              · have e1 : decide ((255 : Int) < (s.length : Int)) = false := decide_eq_false (by omega)
                have e2 : decide (255 < s.length) = false := decide_eq_false (by omega)
                have Hs := hid (And.intro hs (And.intro hany (And.intro hb hx)))
                clear hs hany hb hx hip
                go_wp2_with fail
                exact ⟨⟨k + 1, by omega, by go_num, any_more Hs.out.1 Hs.out.2.1 e2, Hs.out.2.2.1, Hs.out.2.2.2⟩, by simp [intOf]; omega⟩
              · have e1 : decide ((255 : Int) < (s.length : Int)) = true := decide_eq_true (by omega)
                have e2 : decide (255 < s.length) = true := decide_eq_true (by omega)
                have Hs := hid (And.intro hs (And.intro hany (And.intro hb hx)))
                clear hs hany hb hx hip
                go_wp2_with fail
                go_ret
                have hno : s1 = true := by rw [HR.out.2.1]; exact any_one Hs.out.1 e2
                exact ⟨by rw [hno]; simp, Hs.out.2.2.1⟩
            · have hno : s1 = false := by rw [HR.out.2.1]; exact any_all hany (by omega)
              have Hs := hid (And.intro hno (And.intro hb hx))
              clear hno hany hb hx
              go_wp2_with fail
              go_loopw [4] (fun t wr => ∃ k : Nat, k ≤ j.fs.length ∧ t = .int .i64 (k : Int) ∧ (j.fs.take k).any longV = false ∧ Below w.heap.size w wr ∧ JobBox wr w.heap.size j) (fun t _ => j.fs.length - (intOf t).toNat)
              case atStart => exact ⟨0, Nat.zero_le _, rfl, rfl, Hs.out.2.1, Hs.out.2.2⟩
              case round =>
                clear x0 x1 x2 x3 x4 x5
                obtain ⟨k, hk, rfl, hany, hb, hx⟩ := hrel
                obtain ⟨x0, x1, x2, x3, x4, x5⟩ := hx.at
                by_cases hlt : k < j.fs.length
                · obtain ⟨f, hs⟩ : ∃ s, j.fs[k]? = some s := ⟨_, List.getElem?_eq_getElem hlt⟩
                  obtain ⟨g, off, hip, y0, y1⟩ := FilesAt.cell (RowsAt.below H0.out.2.2.files hb) hs
                  rw [hip] at x0
                  have Hf := hid (And.intro hs (And.intro hany (And.intro hb hx)))
                  clear hs hany hb hx hip
                  by_cases hl : f.name.length ≤ 255
                  · have e1 : decide ((255 : Int) < (f.name.length : Int)) = false := decide_eq_false (by omega)
                    have e2 : decide (255 < f.name.length) = false := decide_eq_false (by omega)
                    by_cases hn : f.n ≤ 1048576
                    · have e3 : decide ((1048576 : Int) < (f.n : Int)) = false := decide_eq_false (by omega)
                      have e4 : decide (1048576 < f.n) = false := decide_eq_false (by omega)
                      go_wp2_with fail
                      exact ⟨⟨k + 1, by omega, by go_num, any_more Hf.out.1 Hf.out.2.1 (by unfold longV; rw [e2, e4]; rfl), Hf.out.2.2.1, Hf.out.2.2.2⟩, by simp [intOf]; omega⟩
                    · have e3 : decide ((1048576 : Int) < (f.n : Int)) = true := decide_eq_true (by omega)
                      have e4 : decide (1048576 < f.n) = true := decide_eq_true (by omega)
                      go_wp2_with fail
                      go_ret
                      have hno : s2 = true := by rw [HR.out.2.2]; exact any_one Hf.out.1 (by unfold longV; rw [e4]; simp)
                      exact ⟨by rw [hno]; simp, Hf.out.2.2.1⟩
                  · have e1 : decide ((255 : Int) < (f.name.length : Int)) = true := decide_eq_true (by omega)
                    have e2 : decide (255 < f.name.length) = true := decide_eq_true (by omega)
                    go_wp2_with fail
                    go_ret
                    have hno : s2 = true := by rw [HR.out.2.2]; exact any_one Hf.out.1 (by unfold longV; rw [e2]; simp)
                    exact ⟨by rw [hno]; simp, Hf.out.2.2.1⟩
                · have hno : s2 = false := by rw [HR.out.2.2]; exact any_all hany (by omega)
                  have Hz := hid (And.intro hno hb)
                  clear hno hany hb hx
                  go_wp2_with fail
                  go_ret
                  exact ⟨by rw [HY.out, Hs.out.1, Hz.out.1]; rfl, Hz.out.2⟩
        · have dm1 : decide ((255 : Int) < (j.main.length : Int)) = true := decide_eq_true (by omega)
          have dm2 : decide (255 < j.main.length) = true := decide_eq_true (by omega)
          go_enter Tryz.func9, Tryz.ntmps9
          go_wp2_with fail
          go_ret
          have hno : Hd = false := by rw [HR.out.1]; simp [hm]
          exact ⟨by rw [hno]; rfl, (Below.refl _ _).alloc (Nat.le_refl _) _⟩
      · have di1 : decide ((64 : Int) < (j.ins.length : Int)) = true := decide_eq_true (by omega)
        have di2 : decide (64 < j.ins.length) = true := decide_eq_true (by omega)
        go_enter Tryz.func9, Tryz.ntmps9
        go_wp2_with fail
        go_ret
        have hno : Hd = false := by rw [HR.out.1]; simp [hi]
        exact ⟨by rw [hno]; rfl, (Below.refl _ _).alloc (Nat.le_refl _) _⟩
    · have df1 : decide ((64 : Int) < (j.fs.length : Int)) = true := decide_eq_true (by omega)
      have df2 : decide (64 < j.fs.length) = true := decide_eq_true (by omega)
      go_enter Tryz.func9, Tryz.ntmps9
      go_wp2_with fail
      go_ret
      have hno : Hd = false := by rw [HR.out.1]; simp [hf]
      exact ⟨by rw [hno]; rfl, (Below.refl _ _).alloc (Nat.le_refl _) _⟩
  · have n1 : (j.arch != 1) = true := by unfold bne; rw [a1]; rfl
    have n2 : (j.arch != 2) = false := by unfold bne; rw [a2]; rfl
    have HA := hid (And.intro a1 a2)
    clear a1 a2
    by_cases hf : j.fs.length ≤ 64
    · have df1 : decide ((64 : Int) < (j.fs.length : Int)) = false := decide_eq_false (by omega)
      have df2 : decide (64 < j.fs.length) = false := decide_eq_false (by omega)
      by_cases hi : j.ins.length ≤ 64
      · have di1 : decide ((64 : Int) < (j.ins.length : Int)) = false := decide_eq_false (by omega)
        have di2 : decide (64 < j.ins.length) = false := decide_eq_false (by omega)
        by_cases hm : j.main.length ≤ 255
        · have dm1 : decide ((255 : Int) < (j.main.length : Int)) = false := decide_eq_false (by omega)
          have dm2 : decide (255 < j.main.length) = false := decide_eq_false (by omega)
          go_enter Tryz.func9, Tryz.ntmps9
          go_upto_region 3 with fail
          have hyes : Hd = true := by rw [HR.out.1]; simp [HA.out.1, HA.out.2, hf, hi, hm]
          have HY := hid hyes
          clear hyes hm
          go_wp2_with fail
          go_loopw [3] (fun t wr => ∃ k : Nat, k ≤ j.ins.length ∧ t = .int .i64 (k : Int) ∧ (j.ins.take k).any longS = false ∧ Below w.heap.size w wr ∧ JobBox wr w.heap.size j) (fun t _ => j.ins.length - (intOf t).toNat)
          case atStart => exact ⟨0, Nat.zero_le _, rfl, rfl, H0.out.1, H0.out.2.1⟩
          case round =>
            obtain ⟨k, hk, rfl, hany, hb, hx⟩ := hrel
            obtain ⟨x0, x1, x2, x3, x4, x5⟩ := hx.at
            by_cases hlt : k < j.ins.length
            · obtain ⟨s, hs⟩ : ∃ s, j.ins[k]? = some s := ⟨_, List.getElem?_eq_getElem hlt⟩
              obtain ⟨g, off, hip, y0⟩ := StrsAt.cell (RowsAt.below H0.out.2.2.ins hb) hs
              rw [hip] at x2
              by_cases hl : s.length ≤ 255
              · have e1 : decide ((255 : Int) < (s.length : Int)) = false := decide_eq_false (by omega)
                have e2 : decide (255 < s.length) = false := decide_eq_false (by omega)
                have Hs := hid (And.intro hs (And.intro hany (And.intro hb hx)))
                clear hs hany hb hx hip
                go_wp2_with fail
                exact ⟨⟨k + 1, by omega, by go_num, any_more Hs.out.1 Hs.out.2.1 e2, Hs.out.2.2.1, Hs.out.2.2.2⟩, by simp [intOf]; omega⟩
              · have e1 : decide ((255 : Int) < (s.length : Int)) = true := decide_eq_true (by omega)
                have e2 : decide (255 < s.length) = true := decide_eq_true (by omega)
                have Hs := hid (And.intro hs (And.intro hany (And.intro hb hx)))
                clear hs hany hb hx hip
                go_wp2_with fail
                go_ret
                have hno : s1 = true := by rw [HR.out.2.1]; exact any_one Hs.out.1 e2
                exact ⟨by rw [hno]; simp, Hs.out.2.2.1⟩
            · have hno : s1 = false := by rw [HR.out.2.1]; exact any_all hany (by omega)
              have Hs := hid (And.intro hno (And.intro hb hx))
              clear hno hany hb hx
              go_wp2_with fail
              go_loopw [4] (fun t wr => ∃ k : Nat, k ≤ j.fs.length ∧ t = .int .i64 (k : Int) ∧ (j.fs.take k).any longV = false ∧ Below w.heap.size w wr ∧ JobBox wr w.heap.size j) (fun t _ => j.fs.length - (intOf t).toNat)
              case atStart => exact ⟨0, Nat.zero_le _, rfl, rfl, Hs.out.2.1, Hs.out.2.2⟩
              case round =>
                clear x0 x1 x2 x3 x4 x5
                obtain ⟨k, hk, rfl, hany, hb, hx⟩ := hrel
                obtain ⟨x0, x1, x2, x3, x4, x5⟩ := hx.at
                by_cases hlt : k < j.fs.length
                · obtain ⟨f, hs⟩ : ∃ s, j.fs[k]? = some s := ⟨_, List.getElem?_eq_getElem hlt⟩
                  obtain ⟨g, off, hip, y0, y1⟩ := FilesAt.cell (RowsAt.below H0.out.2.2.files hb) hs
                  rw [hip] at x0
                  have Hf := hid (And.intro hs (And.intro hany (And.intro hb hx)))
                  clear hs hany hb hx hip
                  by_cases hl : f.name.length ≤ 255
                  · have e1 : decide ((255 : Int) < (f.name.length : Int)) = false := decide_eq_false (by omega)
                    have e2 : decide (255 < f.name.length) = false := decide_eq_false (by omega)
                    by_cases hn : f.n ≤ 1048576
                    · have e3 : decide ((1048576 : Int) < (f.n : Int)) = false := decide_eq_false (by omega)
                      have e4 : decide (1048576 < f.n) = false := decide_eq_false (by omega)
                      go_wp2_with fail
                      exact ⟨⟨k + 1, by omega, by go_num, any_more Hf.out.1 Hf.out.2.1 (by unfold longV; rw [e2, e4]; rfl), Hf.out.2.2.1, Hf.out.2.2.2⟩, by simp [intOf]; omega⟩
                    · have e3 : decide ((1048576 : Int) < (f.n : Int)) = true := decide_eq_true (by omega)
                      have e4 : decide (1048576 < f.n) = true := decide_eq_true (by omega)
                      go_wp2_with fail
                      go_ret
                      have hno : s2 = true := by rw [HR.out.2.2]; exact any_one Hf.out.1 (by unfold longV; rw [e4]; simp)
                      exact ⟨by rw [hno]; simp, Hf.out.2.2.1⟩
                  · have e1 : decide ((255 : Int) < (f.name.length : Int)) = true := decide_eq_true (by omega)
                    have e2 : decide (255 < f.name.length) = true := decide_eq_true (by omega)
                    go_wp2_with fail
                    go_ret
                    have hno : s2 = true := by rw [HR.out.2.2]; exact any_one Hf.out.1 (by unfold longV; rw [e2]; simp)
                    exact ⟨by rw [hno]; simp, Hf.out.2.2.1⟩
                · have hno : s2 = false := by rw [HR.out.2.2]; exact any_all hany (by omega)
                  have Hz := hid (And.intro hno hb)
                  clear hno hany hb hx
                  go_wp2_with fail
                  go_ret
                  exact ⟨by rw [HY.out, Hs.out.1, Hz.out.1]; rfl, Hz.out.2⟩
        · have dm1 : decide ((255 : Int) < (j.main.length : Int)) = true := decide_eq_true (by omega)
          have dm2 : decide (255 < j.main.length) = true := decide_eq_true (by omega)
          go_enter Tryz.func9, Tryz.ntmps9
          go_wp2_with fail
          go_ret
          have hno : Hd = false := by rw [HR.out.1]; simp [hm]
          exact ⟨by rw [hno]; rfl, (Below.refl _ _).alloc (Nat.le_refl _) _⟩
      · have di1 : decide ((64 : Int) < (j.ins.length : Int)) = true := decide_eq_true (by omega)
        have di2 : decide (64 < j.ins.length) = true := decide_eq_true (by omega)
        go_enter Tryz.func9, Tryz.ntmps9
        go_wp2_with fail
        go_ret
        have hno : Hd = false := by rw [HR.out.1]; simp [hi]
        exact ⟨by rw [hno]; rfl, (Below.refl _ _).alloc (Nat.le_refl _) _⟩
    · have df1 : decide ((64 : Int) < (j.fs.length : Int)) = true := decide_eq_true (by omega)
      have df2 : decide (64 < j.fs.length) = true := decide_eq_true (by omega)
      go_enter Tryz.func9, Tryz.ntmps9
      go_wp2_with fail
      go_ret
      have hno : Hd = false := by rw [HR.out.1]; simp [hf]
      exact ⟨by rw [hno]; rfl, (Below.refl _ _).alloc (Nat.le_refl _) _⟩
  · have n1 : (j.arch != 1) = true := by unfold bne; rw [a1]; rfl
    have n2 : (j.arch != 2) = true := by unfold bne; rw [a2]; rfl
    have HA := hid (And.intro a1 a2)
    clear a1 a2
    go_enter Tryz.func9, Tryz.ntmps9
    go_wp2_with fail
    go_ret
    have hno : Hd = false := by rw [HR.out.1]; simp [HA.out.1, HA.out.2]
    exact ⟨by rw [hno]; rfl, (Below.refl _ _).alloc (Nat.le_refl _) _⟩
end Go.Proofs.YtfkpbgookilhjaaGreatDoor
