/- The law TrieMakes: the walk. -/
import Derived.Test.YtipgcdpmkpjokaaGreatDoorZMkX
import Derived.Test.YtipgcdpmkpjokaaGreatDoorZMkY
import Derived.Test.YtipgcdpmkpjokaaGreatDoorZFindP
import Derived.Test.YtipgcdpmkpjokaaGreatDoorZFindB
import Derived.Test.YtipgcdpmkpjokaaGreatDoorZTFewA
import Derived.Test.YtipgcdpmkpjokaaGreatDoorZAllE
namespace Go.Proofs.YtipgcdpmkpjokaaGreatDoor
set_option linter.unusedSimpArgs false
set_option linter.unusedVariables false
open Go.RowKit Go.Sort

def LawEnd (w : World) (e : Ending) (w' : World) : Prop := e = .returned (.bool true) ∧ Below w.heap.size w w'

set_option maxHeartbeats 8000000 in
set_option maxRecDepth 100000 in
theorem tr_makes (w : World) (p : Option Addr) (n cap : Nat) (l : List Exp) (h : EN w (.slice p n cap) l) (hin : ∀ x ∈ l, ExpIn x) (het : ET w) :
    Calls Tryz.prog 4 #[.slice p n cap] w (LawEnd w) := by
  have hfew := tr_fewN w (.slice p n cap) l 60 h (by omega)
  have hfew' : Calls Tryz.prog 12 #[.slice p n cap, .int .i64 60] w fun e w' => e = .returned (.bool (fewB l 60)) ∧ w = w' := hfew
  by_cases hA : fewB l 60 = false
  · rw [hA] at hfew'
    have H := hid (And.intro het hfew')
    clear h het hA hin hfew hfew'
    go_enter Tryz.func4, Tryz.ntmps4
    go_wp2_with fail
    refine (H.out.2).mono ?_
    rintro e w1 ⟨rfl, rfl⟩
    go_wp2_with fail
    refine (trie_known _ H.out.1).mono ?_
    rintro e w1 ⟨rfl, hb⟩
    go_wp2_with fail
    go_ret
    exact ⟨rfl, hb⟩
  have hA' : fewB l 60 = true := by simpa using hA
  rw [hA'] at hfew'
  have hlong : ∀ x ∈ l, x.name.length ≤ 400 ∧ x.other.length ≤ 400 := by
    intro x hx
    unfold fewB at hA'
    simp only [Bool.and_eq_true, Bool.not_eq_true', List.any_eq_false] at hA'
    have := hA'.1 x hx
    unfold longE at this
    simp at this
    omega
  have hl60 : l.length ≤ 60 := by
    unfold fewB at hA'
    simp only [Bool.and_eq_true, decide_eq_true_eq] at hA'
    exact hA'.2
  have hes := h.es (by omega)
  obtain ⟨p', cap', hv⟩ := h.form
  obtain ⟨e1, e2, e3⟩ := Value.slice.inj hv
  subst e1 e2 e3
  clear hv
  obtain ⟨F, P0, hF⟩ := made_of l hin
  obtain ⟨rb, re⟩ : ∃ r, r = makeM l (allK F) P0 := ⟨_, rfl⟩
  obtain ⟨b, z⟩ := rb
  obtain ⟨i0, hi0, hz0, hz1, hz2⟩ := info_parts Tryz.infoExport
  have H := hid (And.intro hes (And.intro het (And.intro hfew' (And.intro hin (And.intro hlong (And.intro hF (And.intro re.symm (And.intro hi0 (And.intro hz0 (And.intro hz1 hz2))))))))))
  clear h het hfew hfew' hA hA' hin hes hF hlong re hi0 hz0 hz1 hz2
  go_enter Tryz.func4, Tryz.ntmps4
  go_wp2_with fail
  refine (H.out.2.2.1).mono ?_
  rintro e w1 ⟨rfl, rfl⟩
  go_wp2_with (at_builtin; refine wpList_append_grew _ rfl _ _ _ _ rfl w.heap.size 28 i0 _ 7 72 Tryz.underlying23 H.out.2.2.2.2.2.2.2.1 H.out.2.2.2.2.2.2.2.2.1 H.out.2.2.2.2.2.2.2.2.2.1 H.out.2.2.2.2.2.2.2.2.2.2 rfl _ 0 [] rfl (World.ownsRow_nil _ _ _ _) _ l.length (expCells l) rfl (Src.exps Tryz.underlying23 H.out.1) ?c3 ?c4 ?c5 ?_)
  case c3 => exact Nat.le_trans (show 0 + l.length ≤ 20000 by omega) (by decide)
  case c4 => omega
  case c5 => exact Nat.le_refl _
  intro v1 W1 ho1 hg1
  have hb1 : Below w.heap.size w W1 := hg1.below (Nat.le_refl _) (fun k e => by cases e)
  have ho1 : W1.ownsRow w.heap.size 28 7 v1 l.length (expCells l) := by simpa using ho1
  have hes1 := ES.of_owns ho1 (by omega)
  obtain ⟨oa, oc, hv1⟩ := ownsRow_form ho1
  subst hv1
  have hm := make_any W1 p cap l F P0 (H.out.1.below hb1) H.out.2.2.2.1 H.out.2.2.2.2.2.1
  rw [H.out.2.2.2.2.2.2.1] at hm
  have H1 := hid (And.intro hes1 (And.intro hb1 hm))
  clear ho1 hg1 hb1 hes1 hm
  go_wp2_with fail
  refine (H1.out.2.2).mono ?_
  rintro e W2 ⟨⟨ba, bc, rfl, hob2⟩, hb2⟩
  have hbw2 := H1.out.2.1.trans (hb2.mono H1.out.2.1.size)
  have hm := rmake_any W2 p cap l F P0 (H.out.1.below hbw2) H.out.2.2.2.1 (fun x hx => by have := H.out.2.2.2.2.1 x hx; omega) H.out.2.2.2.2.2.1
  rw [H.out.2.2.2.2.2.2.1] at hm
  have H2 := hid (And.intro hob2 (And.intro hbw2 (And.intro hm (H1.out.1.below hb2))))
  clear hob2 hbw2 hm hb2
  dsimp only
  go_wp2_with fail
  refine (H2.out.2.2.1).mono ?_
  rintro e W3 ⟨⟨ca, cc, rfl, hob3⟩, hb3⟩
  have hbw3 := H2.out.2.1.trans (hb3.mono H2.out.2.1.size)
  have H3 := hid (And.intro (H2.out.1.below hb3) (And.intro hob3 (And.intro hbw3 (And.intro (H2.out.2.2.2.below hb3) (And.intro (H.out.1.below hbw3) (H.out.2.1.below hbw3))))))
  clear hob3 hbw3 hb3
  dsimp only
  have hbl := makeM_len H.out.2.2.2.1 H.out.2.2.2.2.2.1 H.out.2.2.2.2.2.2.1
  have hB2 : BS W3 (.slice ba b.length bc) b := H3.out.1.bs (show b.length ≤ 140737488355328 by omega)
  have hB3 : BS W3 (.slice ca b.length cc) b := H3.out.2.1.bs (show b.length ≤ 140737488355328 by omega)
  have t1 := run_toString (P := Tryz.prog) (w := W3) ba b.length bc Tryz.underlying29 Tryz.underlying5 Tryz.underlying9 hB2
  have t2 := run_toString (P := Tryz.prog) (w := W3) ca b.length cc Tryz.underlying29 Tryz.underlying5 Tryz.underlying9 hB3
  have H3b := hid hB2
  clear hB2 hB3
  go_wp2_with fail
  refine (ref_same W3 _ _ l H3.out.2.2.2.1 H3.out.2.2.2.2.1).mono ?_
  rintro e w8 ⟨rfl, q, rfl⟩
  obtain ⟨V, hV⟩ : ∃ V, V = W3.drewN q := ⟨_, rfl⟩
  have hbV : Below W3.heap.size W3 V := by rw [hV]; exact below_drewNX (Below.refl _ _) q
  have H4 := hid (And.intro (H3b.out.below hbV) (And.intro (H3.out.2.2.2.2.1.below hbV) (And.intro (H3.out.2.2.2.2.2.below hbV) (H3.out.2.2.1.trans (hbV.mono H3.out.2.2.1.size)))))
  rw [← hV]
  clear t1 t2 hV hbV
  by_cases hz : z = 0
  · subst hz
    obtain ⟨-, hall, hap, hl4, hnm⟩ := makeM_good H.out.2.2.2.1 H.out.2.2.2.2.2.1 H.out.2.2.2.2.2.2.1
    have hta := trie_all V ba b.length bc b H4.out.1 H4.out.2.2.1
    rw [hall] at hta
    have HA := hid (And.intro hta (And.intro hall (And.intro hap hnm)))
    clear hta hall hap hnm hl4
    go_wp2_with fail
    refine (HA.out.1).mono ?_
    rintro e W5 ⟨va, rfl, hes5, hb5⟩
    obtain ⟨pa, pc, hva⟩ := hes5.form
    subst hva
    have hs5 := ref_sorted 4096 W5 (.slice p l.length cap) l (H4.out.2.1.below hb5) (by omega) (by omega)
    rw [sortedR_is HA.out.2.2.1 (by omega)] at hs5
    have H5 := hid (And.intro hes5 (And.intro hs5 (And.intro (H4.out.1.below hb5) (And.intro (H4.out.2.1.below hb5) (And.intro (H4.out.2.2.1.below hb5) (H4.out.2.2.2.trans (hb5.mono H4.out.2.2.2.size)))))))
    clear hes5 hs5 hb5
    go_wp2_with fail
    refine (H5.out.2.1).mono ?_
    rintro e W6 ⟨vs, rfl, ho6, hb6⟩
    obtain ⟨sa, sc, hvs⟩ := ownsRow_form ho6
    subst hvs
    have hbnl : (byNames l).length ≤ 60 := by rw [(byNames_perm l).length_eq]; exact hl60
    have H6 := hid (And.intro (H5.out.1.below hb6) (And.intro (ES.of_owns ho6 (by omega)) (And.intro (H5.out.2.2.1.below hb6) (And.intro (H5.out.2.2.2.1.below hb6) (And.intro (H5.out.2.2.2.2.1.below hb6) (H5.out.2.2.2.2.2.trans (hb6.mono H5.out.2.2.2.2.2.size)))))))
    clear ho6 hb6
    go_wp2_with fail
    refine (ref_same W6 _ _ (byNames l) H6.out.1 H6.out.2.1).mono ?_
    rintro e w8 ⟨rfl, q2, rfl⟩
    obtain ⟨V7, hV⟩ : ∃ V, V = W6.drewN q2 := ⟨_, rfl⟩
    have hbV : Below W6.heap.size W6 V7 := by rw [hV]; exact below_drewNX (Below.refl _ _) q2
    have H7 := hid (And.intro (H6.out.2.2.1.below hbV) (And.intro (H6.out.2.2.2.1.below hbV) (And.intro (H6.out.2.2.2.2.1.below hbV) (H6.out.2.2.2.2.2.trans (hbV.mono H6.out.2.2.2.2.2.size)))))
    rw [← hV]
    clear hV hbV
    go_wp2_with fail
    go_loopw [10] (fun t wx => ∃ j : Nat, j ≤ l.length ∧ t = .int .i64 (j : Int) ∧ Below V7.heap.size V7 wx) (fun t _ => l.length - (intOf t).toNat)
    case atStart => exact ⟨0, Nat.zero_le _, rfl, Below.refl _ _⟩
    case round =>
      obtain ⟨j, hj, rfl, hb⟩ := hrel
      have hesr := H7.out.2.1.below hb
      have H8 := hid (And.intro hb (And.intro (H7.out.1.below hb) (And.intro hesr (And.intro (H7.out.2.2.1.below hb) (H7.out.2.2.2.trans (hb.mono H7.out.2.2.2.size))))))
      clear hb
      by_cases hjl : j < l.length
      · obtain ⟨x, hx⟩ : ∃ x, l[j]? = some x := ⟨_, List.getElem?_eq_getElem hjl⟩
        obtain ⟨g, off, rfl, x0, x1, x2, x3, x4, x5, x6⟩ := hesr.at hx
        have hfd := trie_find wr ba b.length bc b x.name H8.out.2.1 H8.out.2.2.2.1
        rw [finds_at (by rw [HA.out.2.1]) (by rw [HA.out.2.1]; exact (byNames_perm l).mem_iff.2 (List.mem_of_getElem? hx)) (HA.out.2.2.2 x (List.mem_of_getElem? hx))] at hfd
        have q1 : (j : Int) < (l.length : Int) := by omega
        have H9 := hid (And.intro hx hfd)
        clear hx hfd hesr
        go_wp2_with fail
        refine (H9.out.2).mono ?_
        rintro e w3 ⟨rfl, hb3⟩
        have hba : Below w3.heap.size w3 (w3.alloc (.cells x.cells.toArray 28)) := (Below.refl _ _).alloc (Nat.le_refl _) _
        have hb4 := hb3.trans (hba.mono hb3.size)
        have hes4 := H8.out.2.2.1.below hb4
        have hrow : RowAt (w3.alloc (.cells x.cells.toArray 28)) w3.heap.size 28 x.cells.toArray := heap_alloc_new w3 _
        clear x0 x1 x2 x3 x4 x5 x6 hb3 hba
        have hzc : x.cells.toArray = #[.string (mkS x.name), .int .i64 x.kind, .bool x.weak, .int .u64 x.value, .int .u64 x.resolver, .int .u64 x.ordinal, .string (mkS x.other)] := rfl
        rw [hzc]
        clear hzc
        go_upto_region 17 with fail
        obtain ⟨N, hN⟩ : ∃ N, N = w3.heap.size := ⟨_, rfl⟩
        obtain ⟨W5b, hW5⟩ : ∃ W5, W5 = w3.alloc (.cells x.cells.toArray 28) := ⟨_, rfl⟩
        rw [← hN, ← hW5] at hrow
        rw [← hW5] at hes4 hb4
        rw [← hN]
        rw [show w3.alloc (.cells #[.string (mkS x.name), .int .i64 x.kind, .bool x.weak, .int .u64 (x.value : Int), .int .u64 (x.resolver : Int), .int .u64 (x.ordinal : Int), .string (mkS x.other)] 28) = W5b from hW5.symm]
        obtain ⟨g3, off3, hg3, z0, z1, z2, z3, z4, z5, z6⟩ := hes4.at H9.out.1
        cases hg3
        have n0 : W5b.cell? ⟨N, 0, none⟩ = some (.string (mkS x.name)) := cell_of_row W5b N 0 _ _ _ hrow
        have n1 : W5b.cell? ⟨N, 1, none⟩ = some (.int .i64 x.kind) := cell_of_row W5b N 1 _ _ _ hrow
        have n2 : W5b.cell? ⟨N, 2, none⟩ = some (.bool x.weak) := cell_of_row W5b N 2 _ _ _ hrow
        have n3 : W5b.cell? ⟨N, 3, none⟩ = some (.int .u64 (x.value : Int)) := cell_of_row W5b N 3 _ _ _ hrow
        have n4 : W5b.cell? ⟨N, 4, none⟩ = some (.int .u64 (x.resolver : Int)) := cell_of_row W5b N 4 _ _ _ hrow
        have n5 : W5b.cell? ⟨N, 5, none⟩ = some (.int .u64 (x.ordinal : Int)) := cell_of_row W5b N 5 _ _ _ hrow
        have n6 : W5b.cell? ⟨N, 6, none⟩ = some (.string (mkS x.other)) := cell_of_row W5b N 6 _ _ _ hrow
        have H10 := hid (H8.out.1.trans (hb4.mono H8.out.1.size))
        clear hN hW5 hrow hes4 hb4
        go_quiet (fail)
        go_wp2_with fail
        go_roundw
        case rel => exact ⟨j + 1, hjl, by go_num, below_drewNX H10.out _⟩
        case measure => simp [intOf]; omega
      · obtain hjl' : j = l.length := by omega
        have hd : decide ((j : Int) < (l.length : Int)) = false := by rw [decide_eq_false_iff_not]; omega
        have hd' : decide (j < l.length) = false := by rw [decide_eq_false_iff_not]; omega
        clear hjl' hesr
        go_wp2_with fail
        refine (trie_known wr H8.out.2.2.2.1).mono ?_
        rintro e w9 ⟨rfl, hb9⟩
        go_wp2_with fail
        go_ret
        exact ⟨rfl, H8.out.2.2.2.2.trans (hb9.mono H8.out.2.2.2.2.size)⟩
  · have hb0 := makeM_bad H.out.2.2.2.2.2.2.1 hz
    have hz1 : ((z : Int) != 0) = true := by rw [bne_iff_ne]; exact hz
    have hbl0 : b.length = 0 := by rw [hb0]; rfl
    have Hz := hid hb0
    clear hb0 hz
    go_wp2_with fail
    refine (trie_known V H4.out.2.2.1).mono ?_
    rintro e w9 ⟨rfl, hb9⟩
    go_wp2_with fail
    go_ret
    exact ⟨rfl, H4.out.2.2.2.trans (hb9.mono H4.out.2.2.2.size)⟩
end Go.Proofs.YtipgcdpmkpjokaaGreatDoor
