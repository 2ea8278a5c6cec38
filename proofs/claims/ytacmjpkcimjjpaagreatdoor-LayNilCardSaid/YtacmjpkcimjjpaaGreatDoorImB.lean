/- Images: the first segment that is laid. -/
import Derived.Test.YtacmjpkcimjjpaaGreatDoorImA
namespace Go.Proofs.YtacmjpkcimjjpaaGreatDoor
set_option linter.unusedSimpArgs false
set_option linter.unusedVariables false
open Go.RowKit

theorem SegsAt.form {w : World} {v : Value} {l : List Seg} (h : SegsAt w v l) : ∃ a cap, v = .slice a l.length cap := by
  obtain ⟨p, cap, hv, -⟩ := h
  exact ⟨p, cap, hv⟩
theorem SegsAt.bound {w : World} {v : Value} {l : List Seg} (h : SegsAt w v l) : l.length ≤ 140737488355328 := by
  obtain ⟨p, cap, hv, h1, h2, h3⟩ := h
  exact h2.2
/-- The cells of a segment. -/
theorem SegsAt.at {w : World} {p : Option Addr} {n cap : Nat} {l : List Seg} (h : SegsAt w (.slice p n cap) l) (hn : 0 < l.length) : ∃ b off, p = some ⟨b, off, none⟩ ∧ ∀ i s, l[i]? = some s →
    w.cell? ⟨b, off + i * 7, none⟩ = some (.string (mkS s.name)) ∧ w.cell? ⟨b, off + i * 7 + 1, none⟩ = some (.int .u64 (s.addr : Int)) ∧ w.cell? ⟨b, off + i * 7 + 2, none⟩ = some (.int .u64 (s.size : Int)) ∧ w.cell? ⟨b, off + i * 7 + 3, none⟩ = some (.int .u64 (s.off : Int)) ∧
    w.cell? ⟨b, off + i * 7 + 4, none⟩ = some (.int .u64 (s.fsize : Int)) ∧ w.cell? ⟨b, off + i * 7 + 5, none⟩ = some (.int .i64 s.prot) ∧ w.cell? ⟨b, off + i * 7 + 6, none⟩ = some (.slice s.sp s.sn s.sc) := by
  obtain ⟨p', cap', hv, h1, h2, h3⟩ := h
  cases hv
  obtain ⟨b, off, hp, hc⟩ := h3 (List.length_pos_iff.1 hn)
  exact ⟨b, off, hp, fun i s hs => ⟨hc i s hs 0 _ rfl, hc i s hs 1 _ rfl, hc i s hs 2 _ rfl, hc i s hs 3 _ rfl, hc i s hs 4 _ rfl, hc i s hs 5 _ rfl, hc i s hs 6 _ rfl⟩⟩

set_option maxHeartbeats 400000 in
theorem im_laid (w : World) (s : Seg) : Calls Tryz.prog 78 #[s.v] w fun e w' => e = .returned (.bool (!holeM s)) ∧ Below w.heap.size w w' := by
  obtain ⟨R, hR⟩ : ∃ R, R = holeM s := ⟨_, rfl⟩
  have HC := hid (fun w => by have := im_hole w s; rwa [← hR] at this)
  rw [← hR]
  have hb : Below w.heap.size w (w.alloc (.cells s.cells 44)) := (Below.refl _ _).alloc (Nat.le_refl _) _
  have H := hid hb
  clear hb hR
  unfold Seg.v at HC ⊢
  go_enter Tryz.func78, Tryz.ntmps78
  go_wp2_with fail
  refine (HC.out _).mono ?_
  rintro e w1 ⟨rfl, hb1⟩
  have H1 := hid (H.out.trans (hb1.mono H.out.size))
  clear hb1
  go_wp2_with fail
  go_ret
  exact ⟨rfl, H1.out⟩

def posL (l : List Seg) : Nat := l.findIdx (fun s => !holeM s)
def firstM (l : List Seg) : Int := if posL l < l.length then (posL l : Int) else -1
theorem firstM_lt {l : List Seg} (h : posL l < l.length) : firstM l = posL l := if_pos h
theorem firstM_no {l : List Seg} (h : ¬ posL l < l.length) : firstM l = -1 := if_neg h

set_option maxHeartbeats 400000 in
theorem seg_index (w : World) (v : Value) (l : List Seg) (hv : SegsAt w v l) :
    Calls Tryz.prog 77 #[v, .func (.func 78) #[] #[]] w fun e w' => e = .returned (.int .i64 (firstM l)) ∧ Below w.heap.size w w' := by
  obtain ⟨a, c, rfl⟩ := hv.form
  have hll := hv.bound
  have hpl : posL l ≤ l.length := List.findIdx_le_length
  have H := hid hv
  clear hv
  go_enter Tryz.func77, Tryz.ntmps77
  go_wp2_with fail
  go_loopw [8] (fun i wr => ∃ k : Nat, k ≤ posL l ∧ i = .int .i64 (k : Int) ∧ Below w.heap.size w wr) (fun i _ => l.length - (intOf i).toNat)
  case atStart => exact ⟨0, Nat.zero_le _, rfl, Below.refl _ _⟩
  case round =>
    obtain ⟨k, hk, rfl, hb⟩ := hrel
    have hsz := hb.size
    by_cases hlt : k < l.length
    · have hvr := H.out.below hb
      obtain ⟨g, off, rfl, hcs⟩ := hvr.at (by omega)
      obtain ⟨s, hs⟩ : ∃ s, l[k]? = some s := ⟨_, List.getElem?_eq_getElem hlt⟩
      obtain ⟨x0, x1, x2, x3, x4, x5, x6⟩ := hcs k s hs
      have hsk : l[k] = s := (List.getElem?_eq_some_iff.1 hs).2
      have Hs := hid (And.intro hsk hb)
      obtain ⟨bq, hbq⟩ : ∃ bq, bq = !holeM s := ⟨_, rfl⟩
      have HC := hid (fun w => by have := im_laid w s; unfold Seg.v at this; rwa [← hbq] at this)
      have Hq := hid hbq
      clear hcs hs hvr hsk hb hbq
      go_wp2_with fail
      refine (HC.out _).mono ?_
      rintro e w1 ⟨rfl, hb1⟩
      have Hb1 := hid hb1
      clear hb1
      cases bq with
      | true =>
        go_wp2
        go_ret
        have hkp : posL l = k := by
          have h1 : posL l ≤ k := by
            unfold posL
            rcases Nat.lt_or_ge k (List.findIdx (fun s => !holeM s) l) with h | h
            · have := List.not_of_lt_findIdx h
              rw [Hs.out.1] at this
              exact absurd Hq.out (by simp [this])
            · exact h
          omega
        refine ⟨?_, Hs.out.2.trans (Hb1.out.mono Hs.out.2.size)⟩
        rw [firstM_lt (by omega), hkp]
        rfl
      | false =>
        have hkp : k < posL l := by
          unfold posL at hk ⊢
          rcases Nat.lt_or_eq_of_le hk with h | h
          · exact h
          · exfalso
            have h2 := List.findIdx_getElem (p := fun s : Seg => !holeM s) (xs := l) (w := by rw [← h]; exact hlt)
            have h3 : l[List.findIdx (fun s => !holeM s) l]'(by rw [← h]; exact hlt) = s := by rw [← Hs.out.1]; congr 1; exact h.symm
            rw [h3] at h2
            exact absurd Hq.out (by simp [h2])
        go_wp2
        exact ⟨⟨k + 1, by omega, by go_num, Hs.out.2.trans (Hb1.out.mono Hs.out.2.size)⟩, by simp [intOf]; omega⟩
    · have hkp : posL l = k := by omega
      have Hp := hid (And.intro hkp hb)
      clear hkp hb
      go_wp2
      go_ret
      refine ⟨?_, Hp.out.2⟩
      rw [firstM_no (by rw [Hp.out.1]; exact hlt)]
      rfl
end Go.Proofs.YtacmjpkcimjjpaaGreatDoor
