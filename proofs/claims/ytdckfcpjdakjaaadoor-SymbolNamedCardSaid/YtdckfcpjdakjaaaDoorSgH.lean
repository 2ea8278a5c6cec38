/- The walk of SymbolNamed. -/
import Derived.Test.YtdckfcpjdakjaaaDoorSgG
namespace Go.Proofs.YtdckfcpjdakjaaaDoor
set_option linter.unusedSimpArgs false
set_option linter.unusedVariables false
open Go.RowKit

theorem namedM_take_le (l : List Sym) (nm : List UInt8) (k : Nat) : (namedM (l.take k) nm).length ≤ (namedM l nm).length := by
  have : namedM l nm = namedM (l.take k) nm ++ namedM (l.drop k) nm := by
    unfold namedM; rw [← List.filter_append, List.take_append_drop]
  rw [this]; simp

theorem namedM_get {l : List Sym} {nm : List UInt8} {k : Nat} {s : Sym} (hs : l[k]? = some s) (h : s.name = nm) : (namedM l nm)[(namedM (l.take k) nm).length]? = some s := by
  have h1 : namedM l nm = namedM (l.take (k + 1)) nm ++ namedM (l.drop (k + 1)) nm := by
    unfold namedM; rw [← List.filter_append, List.take_append_drop]
  rw [h1, namedM_snoc_yes hs h, List.append_assoc, List.getElem?_append_right (Nat.le_refl _), Nat.sub_self]
  rfl

set_option maxRecDepth 100000 in
set_option maxHeartbeats 4000000 in
theorem sg_law (w : World) (p : Option Addr) (n cap : Nat) (nm : List UInt8) (ht : w.cell? ⟨2, 15, none⟩ = some (.int .u8 4)) (hs : ∃ l, SN w (.slice p n cap) l ∧ ∀ s ∈ l, SymIn s.sect s.val) :
    Calls Tryd.prog 3 #[.slice p n cap, .string (mkS nm)] w fun e w' => e = .returned (.bool true) ∧ Below w.heap.size w w' := by
  obtain ⟨l, hsn, -⟩ := hs
  obtain rfl : l.length = n := hsn.len.1
  have H := hid (And.intro hsn ht)
  clear hsn ht
  go_enter Tryd.func3, Tryd.ntmps3
  go_wp2_with fail
  refine (sg_much w p _ cap l H.out.1).mono ?_
  rintro e w' ⟨b, rfl, hfew, rfl⟩
  cases b with
  | true =>
    clear hfew
    go_wp2_with fail
    refine (sg_known _ H.out.2).mono ?_
    rintro e w5 ⟨rfl, hb5⟩
    have H5 := hid hb5
    clear hb5
    go_wp2
    go_ret
    exact ⟨rfl, H5.out⟩
  | false =>
    have hl60 := hfew rfl
    clear hfew
    go_wp2_with fail
    refine (sg_named w p _ cap l nm H.out.1 hl60).mono ?_
    rintro e w1 ⟨v, rfl, hown, hb1⟩
    obtain ⟨X, hX⟩ : ∃ X, X = namedM l nm := ⟨_, rfl⟩
    rw [← hX] at hown
    obtain ⟨xa, xc, rfl⟩ := ownsRow_form hown
    have hXl : X.length ≤ 60 := by rw [hX]; exact Nat.le_trans (List.length_filter_le _ _) hl60
    have H1 := hid (And.intro (SN.of_owns hown) (And.intro (H.out.1.below hb1) (And.intro hb1 (And.intro hX (below_cell' hb1 (World.block_lt_of_cell? w _ H.out.2) H.out.2)))))
    clear hown hb1 hX
    go_wp2_with fail
    go_loopw [6, 7] (fun nn i wr => ∃ k m q : Nat, k ≤ l.length ∧ i = .int .i64 (k : Int) ∧ nn = .int .i64 (m : Int) ∧ wr = w1.drewN q ∧ Hid (m = (namedM (l.take k) nm).length)) (fun _ i _ => l.length - (intOf i).toNat)
    case atStart => exact ⟨0, 0, 0, Nat.zero_le _, rfl, rfl, rfl, hid (by simp [namedM])⟩
    case round =>
      obtain ⟨k, m, q, hk, rfl, rfl, rfl, hm⟩ := hrel
      have hmX : m ≤ X.length := by rw [hm.out, H1.out.2.2.2.1]; exact namedM_take_le l nm k
      by_cases hlt : k < l.length
      · obtain ⟨g, off, rfl, hcs⟩ := H1.out.2.1.at (by omega)
        obtain ⟨s, hs⟩ : ∃ s, l[k]? = some s := ⟨_, List.getElem?_eq_getElem hlt⟩
        obtain ⟨x0, x1, x2, x3⟩ := hcs k s hs
        have Hs := hid hs
        clear hs hcs
        by_cases hn : s.name = nm
        · have hget := namedM_get Hs.out hn
          rw [← hm.out, ← H1.out.2.2.2.1] at hget
          have hmlt : m < X.length := (List.getElem?_eq_some_iff.1 hget).1
          obtain ⟨g2, off2, rfl, hcs2⟩ := H1.out.1.at (by omega)
          obtain ⟨y0, y1, y2, y3⟩ := hcs2 m s hget
          have hb : (s.name == nm) = true := by simp [hn]
          have hge : decide ((X.length : Int) ≤ (m : Int)) = false := decide_eq_false (by omega)
          have hge2 : decide (X.length ≤ m) = false := decide_eq_false (by omega)
          have Hn := hid hn
          clear hget hcs2 hn
          go_wp2
          go_quiet (fail)
          go_wp2
          refine ⟨⟨k + 1, m + 1, _, by omega, by go_num, by go_num, rfl, hid ?_⟩, by simp [intOf]; omega⟩
          rw [namedM_snoc_yes Hs.out Hn.out, List.length_append, ← hm.out]
          rfl
        · have hb : (s.name == nm) = false := by simp [hn]
          have Hn := hid hn
          clear hn
          go_wp2
          refine ⟨⟨k + 1, m, _, by omega, by go_num, rfl, rfl, hid ?_⟩, by simp [intOf]; omega⟩
          rw [namedM_snoc_no Hs.out Hn.out, ← hm.out]
      · obtain rfl : k = l.length := by omega
        have hmX2 : m = X.length := by
          have h1 := hm.out
          rw [List.take_length, ← H1.out.2.2.2.1] at h1
          exact h1
        subst hmX2
        go_wp2_with fail
        refine (sg_known _ (by exact H1.out.2.2.2.2)).mono ?_
        rintro e w5 ⟨rfl, hb5⟩
        have H5 := hid ((below_drewN H1.out.2.2.1 q).trans (hb5.mono H1.out.2.2.1.size))
        clear hb5
        go_wp2
        go_ret
        exact ⟨rfl, H5.out⟩

end Go.Proofs.YtdckfcpjdakjaaaDoor
