/- The reference's All: the walk. -/
import Derived.Test.YtipgcdpmkpjokaaGreatDoorZRfJ
import Derived.Test.YtipgcdpmkpjokaaGreatDoorZRfL
namespace Go.Proofs.YtipgcdpmkpjokaaGreatDoor
set_option linter.unusedSimpArgs false
set_option linter.unusedVariables false
open Go.RowKit Go.Sort

/-- What a call of All brings about. -/
def AllEndR (w : World) (r : Nat × List Exp) (e : Ending) (w' : World) : Prop :=
  ∃ v, e = .returned (.tuple #[v, .int .i64 (r.1 : Int)]) ∧ ES w' v r.2 ∧ Below w.heap.size w w'

set_option maxHeartbeats 1000000 in
theorem ref_all (w : World) (p : Option Addr) (n cap : Nat) (l : List UInt8) (h : BS w (.slice p n cap) l) :
    Calls Tryz.prog 10 #[.slice p n cap] w (AllEndR w (allS l)) := by
  obtain rfl := h.len
  have hcp := h.cap
  by_cases hne : l = []
  · subst hne
    clear h
    go_enter Tryz.func10, Tryz.ntmps10
    go_wp2_with fail
    go_ret2
    exact ⟨_, rfl, by rw [show (allS []).2 = [] from byNames_nil]; exact ES.nil _, Below.refl _ _⟩
  · have hpos := List.length_pos_iff.2 hne
    have hd1 : ((l.length : Int) == 0) = false := by rw [beq_eq_false_iff_ne]; omega
    have hd2 : (l.length == 0) = false := by rw [beq_eq_false_iff_ne]; omega
    have hb : Below w.heap.size w (w.alloc (.cells #[.slice p l.length cap, .int .i64 0, .slice none 0 0] 77)) := (Below.refl _ _).alloc (Nat.le_refl _) _
    have hD : DR w (w.alloc (.cells #[.slice p l.length cap, .int .i64 0, .slice none 0 0] 77)) w.heap.size p cap l 0 [] (.slice none 0 0) :=
      ⟨heap_alloc_new w _, h.below hb, fun k hk => inBlk_lt h hk, World.ownsRow_nil _ _ _ _, hb, Nat.le_refl _⟩
    have hcall := ref_down w w.heap.size p cap l hcp.2.2 hne 257 _ 0 [] 0 [] [] _ (.slice none 0 0) hD (World.ownsRow_nil _ _ _ _) (Apart.nil _) (by simp) (by simp) (by simp) (by omega) (by simp) (by omega)
    obtain ⟨r, hr⟩ : ∃ r, r = downF l 257 0 [] [] ⟨0, []⟩ := ⟨_, rfl⟩
    rw [← hr] at hcall
    have H0 := hid (And.intro hcall (And.intro hr hne))
    clear h hb hD hcall hr hne
    go_enter Tryz.func10, Tryz.ntmps10
    go_wp2_with fail
    refine H0.out.1.mono ?_
    rintro e W3 ⟨rfl, vo3, hd3, hk3⟩
    obtain ⟨K, hK⟩ : ∃ K, K = w.heap.size := ⟨_, rfl⟩
    have hlow := hd3.low
    rw [← hK] at hd3 ⊢
    by_cases hz : r.1 = 0
    · have hS : allS l = (0, byNames r.2.out) ∧ NamesApart r.2.out := by
        have hne := H0.out.2.2
        have hr := H0.out.2.1
        have h1 := allT_apart l
        unfold allS
        unfold allT at h1 ⊢
        rw [if_neg hne, ← hr, if_neg (by omega)] at h1 ⊢
        exact ⟨rfl, h1⟩
      have hb3 : ((r.1 : Int) != 0) = false := by rw [hz]; rfl
      have hfew : r.2.out.length ≤ 4096 := by
        have := downF_few l 257 0 [] [] ⟨0, []⟩ (by simp)
        rw [← H0.out.2.1] at this
        exact this hz
      obtain ⟨c0, c1, c2, cf⟩ := hd3.cells
      obtain ⟨op, oc, ho⟩ := ownsRow_form hd3.own
      subst ho
      have hsort := ref_sorted 4096 W3 _ r.2.out (ES.of_owns hd3.own (by omega)) (by omega) (by omega)
      rw [sortedR_is hS.2 (by omega)] at hsort
      have H3 := hid (And.intro hlow (And.intro hS hsort))
      clear hd3 hk3 hS hsort hz hK hlow c0 c1
      go_wp2_with fail
      refine H3.out.2.2.mono ?_
      rintro e W4 ⟨v, rfl, hown, hb4⟩
      obtain ⟨vp, vc, hv⟩ := ownsRow_form hown
      subst hv
      have hl4 : (byNames r.2.out).length ≤ 4096 := by rw [(byNames_perm r.2.out).length_eq]; exact hfew
      have hes := ES.of_owns hown (by omega)
      have H4 := hid (And.intro hes (H3.out.1.trans (hb4.mono H3.out.1.size)))
      clear hown hb4 hes
      go_wp2_with fail
      go_ret2
      rw [H3.out.2.1.1]
      exact ⟨_, rfl, H4.out.1, H4.out.2⟩
    · have hS : allS l = (r.1, []) := by
        have hne := H0.out.2.2
        have hr := H0.out.2.1
        unfold allS
        unfold allT
        rw [if_neg hne, ← hr, if_pos hz]
        simp [byNames]
      have hb3 : ((r.1 : Int) != 0) = true := by rw [bne_iff_ne]; omega
      have H3 := hid (And.intro hlow hS)
      clear hd3 hk3 hS hz hK hlow
      go_wp2_with fail
      go_ret2
      rw [H3.out.2]
      exact ⟨_, rfl, ES.nil _, H3.out.1⟩
end Go.Proofs.YtipgcdpmkpjokaaGreatDoor
