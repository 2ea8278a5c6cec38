/- Images by value: image.High, of any segments. -/
import Derived.Test.YtacmjpkcimjjpaaGreatDoorImC
namespace Go.Proofs.YtacmjpkcimjjpaaGreatDoor
set_option linter.unusedSimpArgs false
set_option linter.unusedVariables false
open Go.RowKit

def highS (h : Nat) (s : Seg) : Nat := if holeM s then h else max h ((s.addr + s.size) % 18446744073709551616)
/-- Where an image ends. -/
def highM (l : List Seg) : Nat := l.foldl highS 0

theorem highM_take {l : List Seg} {k : Nat} {s : Seg} (h : l[k]? = some s) : highM (l.take (k + 1)) = highS (highM (l.take k)) s := by
  have hk := (List.getElem?_eq_some_iff.1 h)
  obtain ⟨hlt, he⟩ := hk
  unfold highM
  rw [List.take_succ_eq_append_getElem hlt, List.foldl_append, he]
  rfl

theorem highM_lt (l : List Seg) : highM l < 18446744073709551616 := by
  unfold highM
  have : ∀ (l : List Seg) (h : Nat), h < 18446744073709551616 → l.foldl highS h < 18446744073709551616 := by
    intro l
    induction l with
    | nil => intro h hh; exact hh
    | cons s r ih =>
      intro h hh
      refine ih _ ?_
      unfold highS
      split
      · exact hh
      · omega
  exact this l 0 (by decide)

set_option maxHeartbeats 800000 in
theorem im_high (w : World) (I : Array Value) (v : Value) (l : List Seg) (hI : ImgV I v) (h : SegsAt w v l) : Calls Tryz.prog 34 #[.agg I] w fun e w' => e = .returned (.int .u64 (highM l : Int)) ∧ Below w.heap.size w w' := by
  obtain ⟨p, cap, rfl⟩ := h.form
  have hll := h.bound
  have c4 : (w.alloc (.cells I 37)).cell? ⟨w.heap.size, 4, none⟩ = some (.slice p l.length cap) := (cell_of_row _ _ 4 _ _ _ (heap_alloc_new w _)).trans hI.segs
  obtain ⟨N, hN⟩ : ∃ N, N = l.length := ⟨_, rfl⟩
  have H := hid (And.intro h hN)
  rw [← hN] at c4 hll
  clear h hI hN
  go_enter Tryz.func34, Tryz.ntmps34
  go_wp2_with fail
  clear c4
  go_loopw [3, 9] (fun hi i wr => ∃ k : Nat, k ≤ N ∧ i = .int .i64 (k : Int) ∧ hi = .int .u64 (highM (l.take k) : Int) ∧ Below w.heap.size w wr) (fun _ i _ => N - (intOf i).toNat)
  case atStart => exact ⟨0, by omega, rfl, rfl, (Below.refl _ _).alloc (Nat.le_refl _) _⟩
  case round =>
    obtain ⟨k, hk, rfl, rfl, hb⟩ := hrel
    have hz := hb.size
    obtain ⟨M, hM⟩ : ∃ M, M = highM (l.take k) := ⟨_, rfl⟩
    have hMl : M < 18446744073709551616 := by rw [hM]; exact highM_lt _
    rw [← hM]
    by_cases hlt : k < N
    · have hvr := H.out.1.below hb
      rw [← H.out.2] at hvr
      obtain ⟨g, off, rfl, hcs⟩ := hvr.at (by have := H.out.2; omega)
      obtain ⟨s, hs⟩ : ∃ s, l[k]? = some s := ⟨_, List.getElem?_eq_getElem (by have := H.out.2; omega)⟩
      obtain ⟨x0, x1, x2, x3, x4, x5, x6⟩ := hcs k s hs
      have hst := highM_take hs
      rw [← hM] at hst
      obtain ⟨q, hq⟩ : ∃ q, q = holeM s := ⟨_, rfl⟩
      have HC := hid (fun w => by have := im_hole w s; unfold Seg.v at this; rwa [← hq] at this)
      obtain ⟨E, hE⟩ : ∃ E, E = (s.addr + s.size) % 18446744073709551616 := ⟨_, rfl⟩
      have hwE : IntKind.u64.wrap ((s.addr : Int) + (s.size : Int)) = (E : Int) := by
        show ((s.addr : Int) + (s.size : Int)) % 18446744073709551616 = _
        omega
      have Hs := hid (And.intro hst (And.intro hq (And.intro hE hb)))
      clear hcs hs hvr hst hq hE hb hM
      go_wp2_with fail
      refine (HC.out _).mono ?_
      rintro e w1 ⟨rfl, hb1⟩
      have hbk := (hb1.block wr.heap.size (by simp)).trans (heap_alloc_new wr _)
      have c1 : w1.cell? ⟨wr.heap.size, 1, none⟩ = some (.int .u64 (s.addr : Int)) := cell_of_row _ _ 1 _ _ _ hbk
      have c2 : w1.cell? ⟨wr.heap.size, 2, none⟩ = some (.int .u64 (s.size : Int)) := cell_of_row _ _ 2 _ _ _ hbk
      have hb2 : Below wr.heap.size wr w1 := ((Below.refl wr.heap.size wr).alloc (Nat.le_refl _) _).trans (hb1.mono (by simp))
      have H2 := hid (Hs.out.2.2.2.trans (hb2.mono Hs.out.2.2.2.size))
      clear hb1 hbk hb2
      cases q with
      | true =>
        go_wp2_with fail
        go_roundw
        case rel => exact ⟨k + 1, by omega, by go_num, by rw [Hs.out.1]; unfold highS; rw [← Hs.out.2.1]; rfl, H2.out⟩
        case measure => simp [intOf]; omega
      | false =>
        go_wp2_with fail
        refine ⟨⟨k + 1, by omega, by go_num, ?_, H2.out⟩, by simp [intOf]; omega⟩
        have e : highS M s = max M E := by unfold highS; rw [← Hs.out.2.1, ← Hs.out.2.2.1]; rfl
        rw [Hs.out.1, e]
        congr 1
        split <;> omega
    · have hkN : k = N := by omega
      have HE := hid (And.intro hkN (And.intro hM hb))
      clear hkN hM hb
      go_wp2_with fail
      go_ret
      have e : l.take k = l := List.take_of_length_le (by have := H.out.2; have := HE.out.1; omega)
      refine ⟨?_, HE.out.2.2⟩
      rw [HE.out.2.1, e]
      rfl
end Go.Proofs.YtacmjpkcimjjpaaGreatDoor
