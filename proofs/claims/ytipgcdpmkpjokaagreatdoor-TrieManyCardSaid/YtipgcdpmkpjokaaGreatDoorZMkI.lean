/- slices.IndexFunc over exports, with any closure; the closures of tie and of Make; slices.ContainsFunc. -/
import Derived.Test.YtipgcdpmkpjokaaGreatDoorZMkE
import Derived.Test.YtipgcdpmkpjokaaGreatDoorZRfL
namespace Go.Proofs.YtipgcdpmkpjokaaGreatDoor
set_option linter.unusedSimpArgs false
set_option linter.unusedVariables false
open Go.RowKit

def posE (test : Exp → Bool) (l : List Exp) : Nat := l.findIdx test
def idxE (test : Exp → Bool) (l : List Exp) : Int := if posE test l < l.length then (posE test l : Int) else -1
theorem idxE_lt {test : Exp → Bool} {l : List Exp} (h : posE test l < l.length) : idxE test l = posE test l := if_pos h
theorem idxE_no {test : Exp → Bool} {l : List Exp} (h : ¬ posE test l < l.length) : idxE test l = -1 := if_neg h

set_option maxHeartbeats 1000000 in
set_option maxRecDepth 4000 in
theorem index_tie (w : World) (v : Value) (l : List Exp) (X Y : Nat) (test : Exp → Bool) (hv : ES w v l)
    (hc : ∀ w', Below w.heap.size w w' → ∀ x ∈ l, Calls Tryz.prog 44 #[.agg x.cells.toArray, .pointer (some ⟨X, 0, none⟩), .pointer (some ⟨Y, 0, none⟩)] w' fun e w2 => e = .returned (.bool (test x)) ∧ Below w'.heap.size w' w2) :
    Calls Tryz.prog 39 #[v, .func (.func 44) #[] #[.pointer (some ⟨X, 0, none⟩), .pointer (some ⟨Y, 0, none⟩)]] w fun e w' => e = .returned (.int .i64 (idxE test l)) ∧ Below w.heap.size w w' := by
  obtain ⟨a, c, rfl⟩ := hv.form
  have hll := hv.len
  have hpl : posE test l ≤ l.length := List.findIdx_le_length
  have H := hid (And.intro hv hc)
  clear hv hc
  go_enter Tryz.func39, Tryz.ntmps39
  go_wp2_with fail
  go_loopw [8] (fun i wr => ∃ k : Nat, k ≤ posE test l ∧ i = .int .i64 (k : Int) ∧ Below w.heap.size w wr) (fun i _ => l.length - (intOf i).toNat)
  case atStart => exact ⟨0, Nat.zero_le _, rfl, Below.refl _ _⟩
  case round =>
    obtain ⟨k, hk, rfl, hb⟩ := hrel
    have hsz := hb.size
    by_cases hlt : k < l.length
    · have hvr := H.out.1.below hb
      obtain ⟨s, hs⟩ : ∃ s, l[k]? = some s := ⟨_, List.getElem?_eq_getElem hlt⟩
      obtain ⟨g, off, rfl, x0, x1, x2, x3, x4, x5, x6⟩ := hvr.at hs
      have hsk : l[k] = s := (List.getElem?_eq_some_iff.1 hs).2
      obtain ⟨bq, hbq⟩ : ∃ bq, bq = test s := ⟨_, rfl⟩
      have HC := hid (H.out.2 wr hb s (List.mem_of_getElem? hs))
      have Hs := hid (And.intro hsk (And.intro hb hbq))
      clear hs hvr hsk hb hbq
      go_wp2_with fail
      refine (HC.out).mono ?_
      rintro e w1 ⟨rfl, hb1⟩
      rw [← Hs.out.2.2]
      have Hb1 := hid hb1
      clear hb1
      cases bq with
      | true =>
        go_wp2
        go_ret
        have hkp : posE test l = k := by
          have h1 : posE test l ≤ k := by
            unfold posE
            rcases Nat.lt_or_ge k (List.findIdx test l) with h | h
            · have := List.not_of_lt_findIdx h
              rw [Hs.out.1] at this
              exact absurd Hs.out.2.2 (by simp [this])
            · exact h
          omega
        refine ⟨?_, Hs.out.2.1.trans (Hb1.out.mono Hs.out.2.1.size)⟩
        rw [idxE_lt (by omega), hkp]
        rfl
      | false =>
        have hkp : k < posE test l := by
          unfold posE at hk ⊢
          rcases Nat.lt_or_eq_of_le hk with h | h
          · exact h
          · exfalso
            have h2 := List.findIdx_getElem (p := test) (xs := l) (w := by rw [← h]; exact hlt)
            have h3 : l[List.findIdx test l]'(by rw [← h]; exact hlt) = s := by rw [← Hs.out.1]; congr 1; exact h.symm
            rw [h3] at h2
            exact absurd Hs.out.2.2 (by simp [h2])
        go_wp2
        exact ⟨⟨k + 1, by omega, by go_num, Hs.out.2.1.trans (Hb1.out.mono Hs.out.2.1.size)⟩, by simp [intOf]; omega⟩
    · have hkp : posE test l = k := by omega
      have Hp := hid (And.intro hkp hb)
      clear hkp hb
      go_wp2
      go_ret
      rw [idxE_no (by rw [Hp.out.1]; exact hlt)]
      exact ⟨rfl, Hp.out.2⟩

set_option maxHeartbeats 1000000 in
set_option maxRecDepth 4000 in
theorem index_may (w : World) (v : Value) (l : List Exp) (test : Exp → Bool) (hv : ES w v l)
    (hc : ∀ w', Below w.heap.size w w' → ∀ x ∈ l, Calls Tryz.prog 16 #[.agg x.cells.toArray] w' fun e w2 => e = .returned (.bool (test x)) ∧ Below w'.heap.size w' w2) :
    Calls Tryz.prog 39 #[v, .func (.func 16) #[] #[]] w fun e w' => e = .returned (.int .i64 (idxE test l)) ∧ Below w.heap.size w w' := by
  obtain ⟨a, c, rfl⟩ := hv.form
  have hll := hv.len
  have hpl : posE test l ≤ l.length := List.findIdx_le_length
  have H := hid (And.intro hv hc)
  clear hv hc
  go_enter Tryz.func39, Tryz.ntmps39
  go_wp2_with fail
  go_loopw [8] (fun i wr => ∃ k : Nat, k ≤ posE test l ∧ i = .int .i64 (k : Int) ∧ Below w.heap.size w wr) (fun i _ => l.length - (intOf i).toNat)
  case atStart => exact ⟨0, Nat.zero_le _, rfl, Below.refl _ _⟩
  case round =>
    obtain ⟨k, hk, rfl, hb⟩ := hrel
    have hsz := hb.size
    by_cases hlt : k < l.length
    · have hvr := H.out.1.below hb
      obtain ⟨s, hs⟩ : ∃ s, l[k]? = some s := ⟨_, List.getElem?_eq_getElem hlt⟩
      obtain ⟨g, off, rfl, x0, x1, x2, x3, x4, x5, x6⟩ := hvr.at hs
      have hsk : l[k] = s := (List.getElem?_eq_some_iff.1 hs).2
      obtain ⟨bq, hbq⟩ : ∃ bq, bq = test s := ⟨_, rfl⟩
      have HC := hid (H.out.2 wr hb s (List.mem_of_getElem? hs))
      have Hs := hid (And.intro hsk (And.intro hb hbq))
      clear hs hvr hsk hb hbq
      go_wp2_with fail
      refine (HC.out).mono ?_
      rintro e w1 ⟨rfl, hb1⟩
      rw [← Hs.out.2.2]
      have Hb1 := hid hb1
      clear hb1
      cases bq with
      | true =>
        go_wp2
        go_ret
        have hkp : posE test l = k := by
          have h1 : posE test l ≤ k := by
            unfold posE
            rcases Nat.lt_or_ge k (List.findIdx test l) with h | h
            · have := List.not_of_lt_findIdx h
              rw [Hs.out.1] at this
              exact absurd Hs.out.2.2 (by simp [this])
            · exact h
          omega
        refine ⟨?_, Hs.out.2.1.trans (Hb1.out.mono Hs.out.2.1.size)⟩
        rw [idxE_lt (by omega), hkp]
        rfl
      | false =>
        have hkp : k < posE test l := by
          unfold posE at hk ⊢
          rcases Nat.lt_or_eq_of_le hk with h | h
          · exact h
          · exfalso
            have h2 := List.findIdx_getElem (p := test) (xs := l) (w := by rw [← h]; exact hlt)
            have h3 : l[List.findIdx test l]'(by rw [← h]; exact hlt) = s := by rw [← Hs.out.1]; congr 1; exact h.symm
            rw [h3] at h2
            exact absurd Hs.out.2.2 (by simp [h2])
        go_wp2
        exact ⟨⟨k + 1, by omega, by go_num, Hs.out.2.1.trans (Hb1.out.mono Hs.out.2.1.size)⟩, by simp [intOf]; omega⟩
    · have hkp : posE test l = k := by omega
      have Hp := hid (And.intro hkp hb)
      clear hkp hb
      go_wp2
      go_ret
      rw [idxE_no (by rw [Hp.out.1]; exact hlt)]
      exact ⟨rfl, Hp.out.2⟩

/-- The closure of tie. -/
theorem tie_1 (w : World) (x : Exp) (X Y s : Nat) (c d : UInt8) (hX : w.cell? ⟨X, 0, none⟩ = some (.int .i64 (s : Int))) (hY : w.cell? ⟨Y, 0, none⟩ = some (.int .u8 (c.toNat : Int))) (hd : x.name[s]? = some d) :
    Calls Tryz.prog 44 #[.agg x.cells.toArray, .pointer (some ⟨X, 0, none⟩), .pointer (some ⟨Y, 0, none⟩)] w fun e w' => e = .returned (.bool (d != c)) ∧ Below w.heap.size w w' := by
  have hlt : s < x.name.length := (List.getElem?_eq_some_iff.1 hd).1
  have hat := mkS_at hd
  have hX1 : (w.alloc (.cells x.cells.toArray 28)).cell? ⟨X, 0, none⟩ = some (.int .i64 (s : Int)) := (((Below.refl _ _).alloc (Nat.le_refl _) _).cell (p := ⟨X, 0, none⟩) (World.block_lt_of_cell? w _ hX)).trans hX
  have hY1 : (w.alloc (.cells x.cells.toArray 28)).cell? ⟨Y, 0, none⟩ = some (.int .u8 (c.toNat : Int)) := (((Below.refl _ _).alloc (Nat.le_refl _) _).cell (p := ⟨Y, 0, none⟩) (World.block_lt_of_cell? w _ hY)).trans hY
  have hN1 : (w.alloc (.cells x.cells.toArray 28)).cell? ⟨w.heap.size, 0, none⟩ = some (.string (mkS x.name)) := by rw [cell_of_row _ _ 0 _ _ _ (heap_alloc_new w _)]; rfl
  obtain ⟨t, ht⟩ : ∃ t, t = (d != c) := ⟨_, rfl⟩
  have t1 : ((d.toNat : Int) != (c.toNat : Int)) = t := by
    rw [ht]
    by_cases e : d = c
    · subst e; simp
    · have : (d.toNat : Int) ≠ (c.toNat : Int) := fun h => e (UInt8.toNat_inj.1 (by omega))
      rw [bne_iff_ne.2 this, bne_iff_ne.2 e]
  rw [← ht]
  have H := hid ht
  have q1 : (s : Int) < (x.name.length : Int) := by omega
  clear ht hX hY hd
  go_enter Tryz.func44, Tryz.ntmps44
  go_wp2_with fail
  go_quiet (fail)
  go_wp2_with fail
  go_ret
  exact ⟨rfl, by repeat (first | exact Below.refl _ _ | refine below_drewX ?_ | refine below_drewNX ?_ _ | refine Below.alloc ?_ (by simp) _)⟩
end Go.Proofs.YtipgcdpmkpjokaaGreatDoor
