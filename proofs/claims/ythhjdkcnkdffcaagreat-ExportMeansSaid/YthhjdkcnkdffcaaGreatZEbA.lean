/- What is read of a trie where the listed variable may be anything, as long as no reading fails: the marks. -/
import Derived.Test.YthhjdkcnkdffcaaGreatZUlebA
import Derived.Test.YthhjdkcnkdffcaaGreatZSays
import Derived.Test.YthhjdkcnkdffcaaGreatZRead
namespace Go.Proofs.YthhjdkcnkdffcaaGreat.Eb
set_option linter.unusedSimpArgs false
set_option linter.unusedVariables false
open Go.RowKit
/-- The variable is as it should be, if A. -/
def EZ (A : Prop) (w : World) : Prop := A → ET w
theorem EZ.grown {A : Prop} {w w' : World} {r : Option Nat} (h : EZ A w) (g : w.grownBy w' r) (hr : A → r ≠ some 0) : EZ A w' := fun a => (h a).grown g (hr a)
theorem EZ.heap {A : Prop} {w w' : World} (h : EZ A w) (hh : w'.heap = w.heap) : EZ A w' := fun a => (h a).heap hh
theorem EZ.mono {A B : Prop} {w : World} (h : EZ A w) (hi : B → A) : EZ B w := fun b => h (hi b)
theorem EZ.ne {A : Prop} {w : World} (h : EZ A w) {c k : Nat} {l : List UInt8} {big f : Bool} (hc : CurAt w c l k big f) : A → some c ≠ some 0 := fun a => ET.ne (h a) hc
/-- Err: is 3 of a cursor that failed, 0 else. -/
theorem cur_err_z (c : Nat) (w : World) (l : List UInt8) (k : Nat) (big f : Bool) (h : CurAt w c l k big f) (hg : EZ (f = true) w) :
    Calls Tryz.prog 121 #[.pointer (some ⟨c, 0, none⟩)] w fun e w' => e = .returned (.int .i64 (if f then 3 else 0)) ∧ Below w.heap.size w w' := by
  have h' := h
  obtain ⟨v, hv, hb, hk, hc⟩ := h
  obtain ⟨⟨h0, h1, h2, h3⟩, hf⟩ := cur_cells hc
  cases f with
  | false =>
    go_enter Tryz.func121, Tryz.ntmps121
    go_wp2_with (first
      | (go_at_call 136; refine (cur_wrong_ok c _ h3).mono ?_; rintro e w' ⟨rfl, rfl⟩)
      | (go_at_call 135; refine (code_nil _).mono ?_; rintro e w' ⟨rfl, hgr⟩))
    go_ret
    exact ⟨rfl, grownBy_below hgr⟩
  | true => exact cur_err c w l k big true h' (hg rfl)
set_option maxHeartbeats 4000000 in
theorem leb_groups (w0 w : World) (c nb k : Nat) (l : List UInt8) (hl : l.length ≤ 140737488355328) (hcu : CurAt w c l k false false) (hc0 : w.cell? ⟨nb, 0, none⟩ = some (.int .u64 0)) (hfr : w.frozen? ⟨nb, 0, none⟩ = false)
    (hw0 : w0.grownBy w (some c)) (hnb : w0.heap.size ≤ nb) :
    Calls Tryz.prog 133 #[.pointer (some ⟨c, 0, none⟩), .func (.func 134) #[] #[.pointer (some ⟨nb, 0, none⟩)]] w fun e w' =>
      ∃ b, e = .returned (.bool b) ∧ GrEnd w0 w' c nb l k b := by
  have h1 : w.cell? ⟨c, 1, none⟩ = some (.int .i64 k) := by
    obtain ⟨v, hv, hb, hk, hc⟩ := hcu
    exact (cur_cells hc).1.2.1
  have hk : k ≤ l.length := by obtain ⟨v, hv, hb, hk, hc⟩ := hcu; exact hk
  have H := hid (GrAt.mk hcu hc0 hfr (by simp) rfl hw0 : GrAt w0 w c nb l k 0 0)
  clear hcu hc0 hfr hw0
  go_enter Tryz.func133, Tryz.ntmps133
  go_wp2_with fail
  go_step3
  go_wp2_with ((go_at_call 123; refine (cur_at c _ k h1).mono ?_; rintro e w' ⟨rfl, rfl⟩))
  go_step3
  go_wp2_with fail
  go_loopw [10] (fun i wr => ∃ j n : Nat, j ≤ 10 ∧ i = .int .i64 (j : Int) ∧ GrAt w0 wr c nb l k j n) (fun i _ => 10 - (intOf i).toNat)
  case atStart => exact ⟨0, 0, by omega, rfl, H.out⟩
  case round =>
    obtain ⟨j, n, hj, rfl, hg⟩ := hrel
    have Hg := hid hg
    by_cases hj10 : j < 10
    · obtain ⟨f, hf⟩ : ∃ f, 10 - j = f + 1 := ⟨10 - j - 1, by omega⟩
      obtain ⟨p, cap, g0, g1, hkj⟩ : ∃ p cap, wr.cell? ⟨c, 0, none⟩ = some (.slice p l.length cap) ∧ wr.cell? ⟨c, 1, none⟩ = some (.int .i64 ((k + j : Nat) : Int)) ∧ k + j ≤ l.length := by
        obtain ⟨v, hv, hb, hkj, hc⟩ := hg.cur
        obtain ⟨p, cap, rfl, _⟩ := id hv
        exact ⟨p, cap, (cur_cells hc).1.1, (cur_cells hc).1.2.1, hkj⟩
      clear hg
      by_cases hat : k + j = l.length
      · have hun : ulebM (l.drop k) = none := by
          rw [Hg.out.eq, hf, hat, List.drop_length]; rfl
        have hd0 : decide ((l.length : Int) - ((k + j : Nat) : Int) = 0) = true := by simp; omega
        have Hun := hid hun
        clear hun hf
        go_wp2_with fail
        refine (cur_left c _ p l.length cap (k + j) hkj hl g0 g1).mono ?_
        rintro e w1 ⟨rfl, q, rfl⟩
        go_wp2_with fail
        refine (cur_seek_ok c (wr.drewN q) l _ k (k : Int) false (Hg.out.cur.heap rfl) rfl hk).mono ?_
        rintro e wa ⟨rfl, hca, hga⟩
        have Ha := hid (And.intro hca hga)
        have hfa : wa.frozen? ⟨c, 3, none⟩ = false ∧ ∃ x, wa.cell? ⟨c, 3, none⟩ = some x := by obtain ⟨v, hv, hb, hk, hc⟩ := hca; exact ⟨(cur_cells hc).2 3, _, (cur_cells hc).1.2.2.2⟩
        obtain ⟨hfa, xa, hxa⟩ := hfa
        clear hca hga
        go_wp2_with fail
        refine (cur_fail c _ hfa xa hxa).mono ?_
        rintro e wb ⟨rfl, rfl⟩
        go_wp2
        rw [noGoto_ret]
        go_ret
        refine ⟨false, rfl, grownBy_tr (grownBy_tr (grownBy_heap Hg.out.grown rfl rfl rfl rfl : w0.grownBy (wr.drewN q) (some c)) Ha.out.2) (grownBy_setCell wa c 3 _), ?_⟩
        rw [Hun.out]
        exact ⟨rfl, Ha.out.1.failed⟩
      · have hlt : k + j < l.length := by omega
        obtain ⟨x, hx⟩ : ∃ x, l[k + j]? = some x := ⟨l[k + j], List.getElem?_eq_getElem hlt⟩
        have hdr : l.drop (k + j) = x :: l.drop (k + (j + 1)) := by
          rw [List.drop_eq_getElem_cons hlt, ← Nat.add_assoc]
          rw [List.getElem?_eq_getElem hlt] at hx
          rw [Option.some.inj hx]
        have heq : ulebM (l.drop k) = if j = 9 ∧ 1 < grp x then none else if x.toNat < 128 then some (n + grp x * 128 ^ j, j + 1) else ulebF f (l.drop (k + (j + 1))) (j + 1) (n + grp x * 128 ^ j) := by
          rw [Hg.out.eq, hf, hdr]; rfl
        have Heq := hid heq
        have hn1 : num1 l ⟨k + j, false⟩ = (x.toNat, ⟨k + j + 1, false⟩) := by simp [num1, hx]
        have Hx := hid (And.intro hx hdr)
        have hd0 : decide ((l.length : Int) - ((k + j : Nat) : Int) = 0) = false := by simp; omega
        have hx256 := x.toNat_lt
        have h127 := and127 ⟨x.toNat, hx256⟩
        have h128 := and128 ⟨x.toNat, hx256⟩
        have hwx : IntKind.u8.wrap (x.toNat : Int) = (x.toNat : Int) := IntWalk.u8_in _ (by omega)
        have hgl := grp_lt x
        have hgr0 : w0.grownBy wr (some c) := Hg.out.grown
        dsimp only at h127 h128
        have hgx : x.toNat % 128 = grp x := rfl
        rw [hgx] at h127
        clear heq hx hdr hat hgx
        have Hn1 := hid hn1
        clear hn1
        go_wp2_with fail
        refine (cur_left c _ p l.length cap (k + j) hkj hl g0 g1).mono ?_
        rintro e w1 ⟨rfl, q, rfl⟩
        go_wp2_with fail
        refine (cur_num1 c (wr.drewN q) l ⟨k + j, false⟩ (Hg.out.cur.heap rfl) hl).mono ?_
        rintro e w2 ⟨m, s', hm, rfl, hc2, hg2⟩
        obtain ⟨rfl, rfl⟩ := Prod.mk.inj (hm.symm.trans Hn1.out)
        clear hm
        have hgr2 : w0.grownBy w2 (some c) := grownBy_tr hgr0 ⟨hg2.os, hg2.tape, hg2.output, hg2.size, hg2.block⟩
        have hnc : (some nb : Option Nat) ≠ some c := by
          intro e
          have := Hg.out.cell
          rw [Option.some.inj e, g0] at this
          cases this
        have hcell2 : w2.cell? ⟨nb, 0, none⟩ = some (.int .u64 (n : Nat)) := by
          have hlt := lt_of_cellB Hg.out.cell
          have hb := hg2.block nb hlt (fun e => hnc (e ▸ rfl))
          have hc := Hg.out.cell
          unfold World.cell? at hc ⊢
          simpa [hb] using hc
        have hfr2 : w2.frozen? ⟨nb, 0, none⟩ = false := by
          have hlt := lt_of_cellB Hg.out.cell
          have hb := hg2.block nb hlt (fun e => hnc (e ▸ rfl))
          have hc := Hg.out.own
          unfold World.frozen? at hc ⊢
          simpa [hb] using hc
        have H2 := hid (And.intro hc2 (And.intro hgr2 (And.intro hcell2 hfr2)))
        clear hc2 hg2 hgr2 hcell2 hfr2
        go_wp2_with fail
        refine (cur_err_z c w2 l (k + j + 1) false false H2.out.1 (fun h => by cases h)).mono ?_
        rintro e w3 ⟨rfl, hb3⟩
        have hcell3 : w3.cell? ⟨nb, 0, none⟩ = some (.int .u64 (n : Nat)) := by
          have hb := hb3.block nb (lt_of_cellB H2.out.2.2.1)
          have hc := H2.out.2.2.1
          unfold World.cell? at hc ⊢
          simpa [hb] using hc
        have hfr3 : w3.frozen? ⟨nb, 0, none⟩ = false := by
          have hb := hb3.block nb (lt_of_cellB H2.out.2.2.1)
          have hc := H2.out.2.2.2
          unfold World.frozen? at hc ⊢
          simpa [hb] using hc
        have hcu3 : CurAt w3 c l (k + j + 1) false false := CurAt.below H2.out.1 hb3
        have hgr3 : w0.grownBy w3 (some c) := grownBy_tr H2.out.2.1 (Below.all hb3 _)
        have H3 := hid (And.intro hcu3 (And.intro hcell3 (And.intro hfr3 hgr3)))
        clear hb3 hcell3 hfr3 hcu3 hgr3
        go_wp2_with fail
        refine (uleb_group w3 nb j (grp x) n (by omega) hgl Hg.out.lt H3.out.2.1 H3.out.2.2.1).mono ?_
        rintro e w4 ⟨rfl, X, q4, rfl, hX⟩
        have hs4 := CurAt.set64 H3.out.1 H3.out.2.1 (.int .u64 X)
        have hcell4 : ((w3.setCell ⟨nb, 0, none⟩ (.int .u64 X)).drewN q4).cell? ⟨nb, 0, none⟩ = some (.int .u64 X) := World.cell?_setCell_same _ _ _ H3.out.2.1
        have hgr4 : w0.grownBy ((w3.setCell ⟨nb, 0, none⟩ (.int .u64 X)).drewN q4) (some c) := by
          have h := H3.out.2.2.2
          refine grownBy_heap (w1 := w3.setCell ⟨nb, 0, none⟩ (.int .u64 X)) ⟨h.os, h.tape, h.output, by simpa [World.setCell] using h.size, fun i hi hr => ?_⟩ rfl rfl rfl rfl
          rw [heap_setCell_other w3 _ i _ (by simp; omega)]
          exact h.block i hi hr
        have hcu4 : CurAt ((w3.setCell ⟨nb, 0, none⟩ (.int .u64 X)).drewN q4) c l (k + j + 1) false false := hs4.2.heap rfl
        have hfr4 : ((w3.setCell ⟨nb, 0, none⟩ (.int .u64 X)).drewN q4).frozen? ⟨nb, 0, none⟩ = false := by
          rw [show ((w3.setCell ⟨nb, 0, none⟩ (.int .u64 X)).drewN q4).frozen? ⟨nb, 0, none⟩ = (w3.setCell ⟨nb, 0, none⟩ (.int .u64 X)).frozen? ⟨nb, 0, none⟩ from rfl]
          rw [World.frozen?_setCell]
          exact H3.out.2.2.1
        have H4 := hid (And.intro hcu4 (And.intro hcell4 (And.intro hfr4 hgr4)))
        have HX := hid hX
        clear hs4 hcell4 hgr4 hcu4 hfr4 hX
        by_cases hbad : j = 9 ∧ 1 < grp x
        · have hun : ulebM (l.drop k) = none := by rw [Heq.out, if_pos hbad]
          have Hun := hid hun
          have hdb : (decide (j < 9) || decide (grp x ≤ 1)) = false := by simp; omega
          clear hun hf
          rw [hdb]
          go_wp2_with fail
          refine (cur_seek_ok c _ l _ k (k : Int) false H4.out.1 rfl hk).mono ?_
          rintro e wa ⟨rfl, hca, hga⟩
          have Ha := hid (And.intro hca hga)
          have hfa : wa.frozen? ⟨c, 3, none⟩ = false ∧ ∃ x, wa.cell? ⟨c, 3, none⟩ = some x := by obtain ⟨v, hv, hb, hk, hc⟩ := hca; exact ⟨(cur_cells hc).2 3, _, (cur_cells hc).1.2.2.2⟩
          obtain ⟨hfa, xa, hxa⟩ := hfa
          clear hca hga
          go_wp2_with fail
          refine (cur_fail c _ hfa xa hxa).mono ?_
          rintro e wb ⟨rfl, rfl⟩
          go_wp2
          rw [noGoto_ret]
          go_ret
          refine ⟨false, rfl, grownBy_tr (grownBy_tr H4.out.2.2.2 Ha.out.2) (grownBy_setCell wa c 3 _), ?_⟩
          rw [Hun.out]
          exact ⟨rfl, Ha.out.1.failed⟩
        · have hdb : (decide (j < 9) || decide (grp x ≤ 1)) = true := by simp; omega
          rw [hdb]
          by_cases hsm : x.toNat < 128
          · have hun : ulebM (l.drop k) = some (n + grp x * 128 ^ j, j + 1) := by rw [Heq.out, if_neg hbad, if_pos hsm]
            have Hun := hid hun
            rw [decide_eq_true hsm] at h128
            clear hun hf
            go_wp2_with fail
            rw [noGoto_ret]
            go_ret
            refine ⟨true, rfl, H4.out.2.2.2, ?_⟩
            rw [Hun.out]
            refine ⟨rfl, H4.out.1, ?_⟩
            rw [← HX.out hbad]
            exact H4.out.2.1
          · rw [decide_eq_false hsm] at h128
            go_wp2_with fail
            refine ⟨⟨j + 1, n + grp x * 128 ^ j, by omega, by simp, ⟨H4.out.1, ?_, H4.out.2.2.1, ?_, ?_, H4.out.2.2.2⟩⟩, by simp [intOf]; omega⟩
            · rw [← HX.out hbad]; exact H4.out.2.1
            · have h1 := Hg.out.lt
              have h2 : grp x * 128 ^ j ≤ 127 * 128 ^ j := Nat.mul_le_mul_right _ (by omega)
              rw [Nat.pow_succ]; omega
            · rw [Heq.out, if_neg hbad, if_neg hsm, show 10 - (j + 1) = f from by omega]
    · obtain rfl : j = 10 := by omega
      have hun : ulebM (l.drop k) = none := by rw [hg.eq]; rfl
      have Hun := hid hun
      clear hun hg
      go_wp2_with fail
      refine (cur_seek_ok c _ l _ k (k : Int) false Hg.out.cur rfl hk).mono ?_
      rintro e wa ⟨rfl, hca, hga⟩
      have Ha := hid (And.intro hca hga)
      have hfa : wa.frozen? ⟨c, 3, none⟩ = false ∧ ∃ x, wa.cell? ⟨c, 3, none⟩ = some x := by obtain ⟨v, hv, hb, hk, hc⟩ := hca; exact ⟨(cur_cells hc).2 3, _, (cur_cells hc).1.2.2.2⟩
      obtain ⟨hfa, xa, hxa⟩ := hfa
      clear hca hga
      go_wp2_with fail
      refine (cur_fail c _ hfa xa hxa).mono ?_
      rintro e wb ⟨rfl, rfl⟩
      go_wp2
      rw [noGoto_ret]
      go_ret
      refine ⟨false, rfl, grownBy_tr (grownBy_tr Hg.out.grown Ha.out.2) (grownBy_setCell wa c 3 _), ?_⟩
      rw [Hun.out]
      exact ⟨rfl, Ha.out.1.failed⟩
/-- leb.Uleb, at a cursor in the state s. -/
theorem leb_uleb (w : World) (c : Nat) (l : List UInt8) (s : Cu) (hl : l.length ≤ 140737488355328) (hcu : CuAt w c l s) (het : EZ (s.bad = true) w) :
    Calls Tryz.prog 120 #[.pointer (some ⟨c, 0, none⟩)] w fun e w' =>
      ∃ n s', numC l s = (n, s') ∧ e = .returned (.int .u64 (n : Nat)) ∧ CuAt w' c l s' ∧ w.grownBy w' (some c) := by
  obtain ⟨k, f⟩ := s
  have hb1 : Below w.heap.size w (w.alloc (.cells #[.int .u64 0] 23)) := (Below.refl _ _).alloc (Nat.le_refl _) _
  have hcu1 : CurAt (w.alloc (.cells #[.int .u64 0] 23)) c l k false f := CurAt.below hcu hb1
  cases f with
  | true =>
    have het1 : ET (w.alloc (.cells #[.int .u64 0] 23)) := (het rfl).grown (World.grownBy_alloc w _ none) (by simp)
    have H := hid (And.intro hcu1 het1)
    have hbd := leb_groups_bad _ c w.heap.size k l hl hcu1 het1
    have hg0 := World.grownBy_alloc w (.cells #[.int .u64 0] 23) (some c)
    have HG := hid hg0
    clear hcu hcu1 het1 hb1 hg0
    go_enter Tryz.func120, Tryz.ntmps120
    go_wp2_with fail
    refine hbd.mono ?_
    rintro e w1 ⟨rfl, hc1, hg1⟩
    have H1 := hid (And.intro hc1 hg1)
    clear hc1 hg1
    go_wp2
    go_ret
    exact ⟨0, ⟨k, true⟩, rfl, rfl, H1.out.1, grownBy_tr HG.out H1.out.2⟩
  | false =>
    have hg := leb_groups w (w.alloc (.cells #[.int .u64 0] 23)) c w.heap.size k l hl hcu1 (by simp) (by simp) (World.grownBy_alloc w _ (some c)) (Nat.le_refl _)
    clear hcu hcu1 hb1
    go_enter Tryz.func120, Tryz.ntmps120
    go_wp2_with fail
    refine hg.mono ?_
    rintro e w1 ⟨b, rfl, hgr, hend⟩
    cases hu : ulebM (l.drop k) with
    | none =>
      rw [hu] at hend
      obtain ⟨rfl, hc1⟩ := hend
      have H1 := hid (And.intro hc1 (And.intro hgr hu))
      clear hc1 hgr hu
      go_wp2
      go_ret
      refine ⟨0, ⟨k, true⟩, ?_, rfl, H1.out.1, H1.out.2.1⟩
      unfold numC
      rw [if_neg (by simp), H1.out.2.2]
    | some p =>
      obtain ⟨n, sz⟩ := p
      rw [hu] at hend
      obtain ⟨rfl, hc1, hx⟩ := hend
      have H1 := hid (And.intro hc1 (And.intro hgr hu))
      clear hc1 hgr hu
      go_wp2
      go_ret
      refine ⟨n, ⟨k + sz, false⟩, ?_, rfl, H1.out.1, H1.out.2.1⟩
      unfold numC
      rw [if_neg (by simp), H1.out.2.2]
end Go.Proofs.YthhjdkcnkdffcaaGreat.Eb

namespace Go.Proofs.YthhjdkcnkdffcaaGreat.Eb
set_option linter.unusedSimpArgs false
set_option linter.unusedVariables false
open Go.RowKit
theorem numC_stays {l : List UInt8} {s s' : Cu} {n : Nat} (h : numC l s = (n, s')) (hb : s.bad = true) : s'.bad = true := by
  obtain ⟨k, f⟩ := s
  obtain rfl : f = true := hb
  rw [numC_bad] at h
  cases h; rfl
theorem textC_stays {l : List UInt8} {m : Nat} {s s' : Cu} {t : List UInt8} (h : textC l m s = (t, s')) (hb : s.bad = true) : s'.bad = true := by
  obtain ⟨k, f⟩ := s
  obtain rfl : f = true := hb
  rw [textC_bad] at h
  cases h; rfl
theorem says_bad1 {l : List UInt8} {s s1 : Cu} {fl : Nat} (h : numC l s = (fl, s1)) (hb : s1.bad = true) : (saysC l s).2.2.bad = true := by
  unfold saysC
  rw [h]
  dsimp only
  obtain ⟨⟨o, s2⟩, h2⟩ : ∃ p, numC l s1 = p := ⟨_, rfl⟩
  have hb2 := numC_stays h2 hb
  obtain ⟨⟨t, s3⟩, h3⟩ : ∃ p, textC l 255 s2 = p := ⟨_, rfl⟩
  have hb3 := textC_stays h3 hb2
  obtain ⟨⟨r, s4⟩, h4⟩ : ∃ p, numC l s2 = p := ⟨_, rfl⟩
  have hb4 := numC_stays h4 hb2
  rw [h2]
  dsimp only
  rw [h3, h4]
  dsimp only
  split
  · exact hb3
  · split
    · exact hb2
    · split
      · exact hb2
      · split
        · exact hb4
        · exact hb
theorem says_bad0 {l : List UInt8} {s : Cu} (hb : s.bad = true) : (saysC l s).2.2.bad = true := by
  obtain ⟨⟨fl, s1⟩, h⟩ : ∃ p, numC l s = p := ⟨_, rfl⟩
  exact says_bad1 h (numC_stays h hb)
theorem says_bad2 {l : List UInt8} {s s1 s2 : Cu} {fl v : Nat} (h : numC l s = (fl, s1)) (hf : bareF fl = 16) (h2 : numC l s1 = (v, s2)) (hb : s2.bad = true) : (saysC l s).2.2.bad = true := by
  unfold saysC
  rw [h]
  dsimp only
  obtain ⟨⟨r, s4⟩, h4⟩ : ∃ p, numC l s2 = p := ⟨_, rfl⟩
  rw [if_neg (by omega), if_neg (by omega), if_neg (by omega), if_pos hf, h2]
  dsimp only
  rw [h4]
  exact numC_stays h4 hb
theorem says_et {Bad : Prop} {w0 W : World} {X c : Nat} {l : List UInt8} {s : Cu} {t : TypeId} {vs : Array Value} (h : SaysAt w0 W X c l s t vs) (het : EZ Bad w0) (hcg : Bad → some c ≠ some 0) : EZ Bad W := het.grown h.grown hcg
set_option maxHeartbeats 2000000 in
theorem trie_says {Bad : Prop} (w : World) (c : Nat) (l : List UInt8) (s : Cu) (hl : l.length ≤ 140737488355328) (hne : l ≠ []) (hcu : CuAt w c l s) (het : EZ Bad w) (hbd : (saysC l s).2.2.bad = true → Bad) :
    Calls Tryz.prog 124 #[.pointer (some ⟨c, 0, none⟩)] w fun e w' =>
      ∃ x b s', saysC l s = (x, b, s') ∧ e = .returned (.tuple #[.agg x.cells.toArray, .bool b]) ∧ CuAt w' c l s' ∧ w.grownBy w' (some c) := by
  have hcg := het.ne hcu
  have hclt := CurAt.lt hcu
  have h0 : SaysAt w (w.alloc (.cells #[.string ⟨#[]⟩, .int .i64 0, .bool false, .int .u64 0, .int .u64 0, .int .u64 0, .string ⟨#[]⟩] 25)) w.heap.size c l s 25 #[.string ⟨#[]⟩, .int .i64 0, .bool false, .int .u64 0, .int .u64 0, .int .u64 0, .string ⟨#[]⟩] :=
    ⟨heap_alloc_new w _, CurAt.below hcu ((Below.refl _ _).alloc (Nat.le_refl _) _), World.grownBy_alloc w _ _, Nat.le_refl _, by omega⟩
  have H0 := hid (And.intro h0 (And.intro het (And.intro hcg hbd)))
  obtain ⟨X, hX⟩ : ∃ X, X = w.heap.size := ⟨_, rfl⟩
  have HX := hid hX
  clear hcu het hcg hclt h0 hbd
  go_enter Tryz.func124, Tryz.ntmps124
  go_wp2_with fail
  refine (leb_uleb _ c l s hl H0.out.1.cur ((says_et H0.out.1 H0.out.2.1 H0.out.2.2.1).mono (fun h => H0.out.2.2.2 (says_bad0 h)))).mono ?_
  rintro e w1 ⟨fl, s1, hn1, rfl, hc1, hg1⟩
  have h1 := H0.out.1.call hc1 hg1
  have hf := h1.own 2
  have hc2 := h1.cell 2
  rw [← hX] at h1 hf hc2
  have hfl := numC_lt hn1
  have hA := and4 fl hfl
  have hB := andNot4 fl hfl
  obtain ⟨wk, hwk⟩ : ∃ wk, wk = (fl / 4 % 2 == 1) := ⟨_, rfl⟩
  obtain ⟨bf, hbf⟩ : ∃ bf, bf = bareF fl := ⟨_, rfl⟩
  rw [← hwk] at hA
  rw [← hbf] at hB
  have h2 := h1.set 2 (.bool wk) _ rfl (fun n h => by cases h)
  have H2 := hid (And.intro h2 (And.intro hn1 (And.intro hwk hbf)))
  rw [← hX]
  dsimp at hc2
  clear hc1 hg1 h1 h2 hn1 hwk hbf hX
  by_cases h8 : bf = 8
  · have hb8 : ((bf : Int) == 8) = true := by rw [beq_iff_eq]; omega
    have hs8 := hid h8
    clear h8
    go_wp2_with fail
    refine (leb_uleb _ c l s1 hl H2.out.1.cur ((says_et H2.out.1 H0.out.2.1 H0.out.2.2.1).mono (fun h => H0.out.2.2.2 (says_bad1 H2.out.2.1 h)))).mono ?_
    rintro e w2 ⟨o, s2, hn2, rfl, hc2', hg2⟩
    have H3 := hid (And.intro (H2.out.1.call hc2' hg2) hn2)
    clear hc2' hg2 hn2
    go_wp2_with fail
    refine (cur_text c w2 l s2 H3.out.1.cur hne).mono ?_
    rintro e w3 ⟨t, s3, ht, rfl, hc3, hg3⟩
    have h4 := H3.out.1.call hc3 hg3
    have hz := h4.own
    have d1 := h4.cell 1
    have d5 := h4.cell 5
    have d6 := h4.cell 6
    simp at d1 d5 d6
    have H4 := hid (And.intro h4 ht)
    clear hc3 hg3 h4 ht
    go_wp2_with fail
    obtain ⟨W, hW⟩ : ∃ W, W = (((w3.setCell ⟨X, 1, none⟩ (.int .i64 3)).setCell ⟨X, 5, none⟩ (.int .u64 (o : Int))).setCell ⟨X, 6, none⟩ (.string (mkS t))) := ⟨_, rfl⟩
    rw [← hW]
    have hs := ((H4.out.1.set 1 (.int .i64 3) _ rfl (fun n h => by cases h)).set 5 (.int .u64 (o : Int)) _ rfl (fun n h => by cases h)).set 6 (.string (mkS t)) _ rfl (fun n h => by cases h)
    rw [← hW] at hs
    obtain ⟨V, hV⟩ : ∃ V : Exp, V = ⟨[], 3, wk, 0, 0, o, t⟩ := ⟨_, rfl⟩
    have hs' : SaysAt w W X c l s3 25 #[.string (mkS V.name), .int .i64 V.kind, .bool V.weak, .int .u64 (V.value : Int), .int .u64 (V.resolver : Int), .int .u64 (V.ordinal : Int), .string (mkS V.other)] := by rw [hV]; exact hs
    have c0 := hs'.cell 0
    have c1 := hs'.cell 1
    have c2 := hs'.cell 2
    have c3 := hs'.cell 3
    have c4 := hs'.cell 4
    have c5 := hs'.cell 5
    have c6 := hs'.cell 6
    have het := says_et hs' H0.out.2.1 H0.out.2.2.1
    simp only [List.getElem?_toArray, List.getElem?_cons_zero, List.getElem?_cons_succ] at c0 c1 c2 c3 c4 c5 c6
    have herr := cur_err_z c W.drew l _ false _ (CurAt.heap hs'.cur rfl) ((het.heap rfl).mono (fun h => H0.out.2.2.2 (by unfold saysC; rw [H2.out.2.1]; dsimp only; rw [← H2.out.2.2.2, if_pos hs8.out, H3.out.2]; dsimp only; rw [H4.out.2]; exact h)))
    obtain ⟨B, hB⟩ : ∃ B, B = s3.bad := ⟨_, rfl⟩
    rw [← hB] at herr
    obtain ⟨E, hE⟩ : ∃ E : Int, E = if B = true then 3 else 0 := ⟨_, rfl⟩
    rw [← hE] at herr
    have hE0 : (E == 0) = !B := by rw [hE]; cases B <;> rfl
    clear hE
    have HB := hid hB
    clear hB
    have Herr := hid herr
    clear herr
    have Hs := hid (And.intro hs' (And.intro het hV))
    clear hs hs' het hV hW
    clear d1 d5 d6 hz
    go_region_with (first | (go_at_call 121; (with_reducible refine Herr.out.mono ?_); rintro e w4 ⟨rfl, hb⟩; have hs4 := (Hs.out.1.heap (W' := W.drew) rfl rfl rfl rfl).below hb; have k0 : w4.cell? ⟨X, 0, none⟩ = _ := hs4.cell 0; have k1 : w4.cell? ⟨X, 1, none⟩ = _ := hs4.cell 1; have k2 : w4.cell? ⟨X, 2, none⟩ = _ := hs4.cell 2; have k3 : w4.cell? ⟨X, 3, none⟩ = _ := hs4.cell 3; have k4 : w4.cell? ⟨X, 4, none⟩ = _ := hs4.cell 4; have k5 : w4.cell? ⟨X, 5, none⟩ = _ := hs4.cell 5; have k6 : w4.cell? ⟨X, 6, none⟩ = _ := hs4.cell 6; have kz := hs4.own; simp only [List.getElem?_toArray, List.getElem?_cons_zero, List.getElem?_cons_succ] at k0 k1 k2 k3 k4 k5 k6; have H5 := hid hs4; clear hs4 hb))
    all_goals
      go_wp2_with fail
      refine bodyPost_ret (v := .tuple #[.agg V.cells.toArray, .bool (!B)]) (by simp [results, Tryz.results124, go_sem, Exp.cells, k0, k1, k2, k3, k4, k5, k6]) rfl ?_
      refine ⟨V, !B, s3, ?_, rfl, ?_⟩
      · rw [Hs.out.2.2]
        unfold saysC
        rw [H2.out.2.1]; dsimp only; rw [← H2.out.2.2.2, if_pos hs8.out, H3.out.2]; dsimp only; rw [H4.out.2]; dsimp only; rw [← H2.out.2.2.1, ← HB.out]
      · have h7 := H5.out.again
        exact ⟨h7.cur, h7.grown⟩
  · have hb8 : ((bf : Int) == 8) = false := by rw [beq_eq_false_iff_ne]; omega
    have hs8 := hid h8
    clear h8
    by_cases h0 : bf = 0
    · have hb0 : ((bf : Int) == 0) = true := by rw [beq_iff_eq]; omega
      have hs0 := hid h0
      clear h0
      go_wp2_with fail
      refine (leb_uleb _ c l s1 hl H2.out.1.cur ((says_et H2.out.1 H0.out.2.1 H0.out.2.2.1).mono (fun h => H0.out.2.2.2 (says_bad1 H2.out.2.1 h)))).mono ?_
      rintro e w2 ⟨o, s2, hn2, rfl, hc2', hg2⟩
      have h4 := H2.out.1.call hc2' hg2
      have hz := h4.own
      have d1 := h4.cell 1
      have d3 := h4.cell 3
      simp at d1 d3
      have H4 := hid (And.intro h4 hn2)
      clear hc2' hg2 h4 hn2
      go_wp2_with fail
      obtain ⟨W, hW⟩ : ∃ W, W = ((w2.setCell ⟨X, 1, none⟩ (.int .i64 1)).setCell ⟨X, 3, none⟩ (.int .u64 (o : Int))) := ⟨_, rfl⟩
      rw [← hW]
      have hs := (H4.out.1.set 1 (.int .i64 1) _ rfl (fun n h => by cases h)).set 3 (.int .u64 (o : Int)) _ rfl (fun n h => by cases h)
      rw [← hW] at hs
      obtain ⟨V, hV⟩ : ∃ V : Exp, V = ⟨[], 1, wk, o, 0, 0, []⟩ := ⟨_, rfl⟩
      have hs' : SaysAt w W X c l s2 25 #[.string (mkS V.name), .int .i64 V.kind, .bool V.weak, .int .u64 (V.value : Int), .int .u64 (V.resolver : Int), .int .u64 (V.ordinal : Int), .string (mkS V.other)] := by rw [hV]; exact hs
      have c0 := hs'.cell 0
      have c1 := hs'.cell 1
      have c2 := hs'.cell 2
      have c3 := hs'.cell 3
      have c4 := hs'.cell 4
      have c5 := hs'.cell 5
      have c6 := hs'.cell 6
      have het := says_et hs' H0.out.2.1 H0.out.2.2.1
      simp only [List.getElem?_toArray, List.getElem?_cons_zero, List.getElem?_cons_succ] at c0 c1 c2 c3 c4 c5 c6
      have herr := cur_err_z c W.drew l _ false _ (CurAt.heap hs'.cur rfl) ((het.heap rfl).mono (fun h => H0.out.2.2.2 (by unfold saysC; rw [H2.out.2.1]; dsimp only; rw [← H2.out.2.2.2, if_neg hs8.out, if_pos hs0.out, H4.out.2]; exact h)))
      obtain ⟨B, hB⟩ : ∃ B, B = s2.bad := ⟨_, rfl⟩
      rw [← hB] at herr
      obtain ⟨E, hE⟩ : ∃ E : Int, E = if B = true then 3 else 0 := ⟨_, rfl⟩
      rw [← hE] at herr
      have hE0 : (E == 0) = !B := by rw [hE]; cases B <;> rfl
      clear hE
      have HB := hid hB
      clear hB
      have Herr := hid herr
      clear herr
      have Hs := hid (And.intro hs' (And.intro het hV))
      clear hs hs' het hV hW
      clear d1 d3 hz
      go_region_with (first | (go_at_call 121; (with_reducible refine Herr.out.mono ?_); rintro e w4 ⟨rfl, hb⟩; have hs4 := (Hs.out.1.heap (W' := W.drew) rfl rfl rfl rfl).below hb; have k0 : w4.cell? ⟨X, 0, none⟩ = _ := hs4.cell 0; have k1 : w4.cell? ⟨X, 1, none⟩ = _ := hs4.cell 1; have k2 : w4.cell? ⟨X, 2, none⟩ = _ := hs4.cell 2; have k3 : w4.cell? ⟨X, 3, none⟩ = _ := hs4.cell 3; have k4 : w4.cell? ⟨X, 4, none⟩ = _ := hs4.cell 4; have k5 : w4.cell? ⟨X, 5, none⟩ = _ := hs4.cell 5; have k6 : w4.cell? ⟨X, 6, none⟩ = _ := hs4.cell 6; have kz := hs4.own; simp only [List.getElem?_toArray, List.getElem?_cons_zero, List.getElem?_cons_succ] at k0 k1 k2 k3 k4 k5 k6; have H5 := hid hs4; clear hs4 hb))
      all_goals
        go_wp2_with fail
        refine bodyPost_ret (v := .tuple #[.agg V.cells.toArray, .bool (!B)]) (by simp [results, Tryz.results124, go_sem, Exp.cells, k0, k1, k2, k3, k4, k5, k6]) rfl ?_
        refine ⟨V, !B, s2, ?_, rfl, ?_⟩
        · rw [Hs.out.2.2]
          unfold saysC
          rw [H2.out.2.1]; dsimp only; rw [← H2.out.2.2.2, if_neg hs8.out, if_pos hs0.out, H4.out.2]; dsimp only; rw [← H2.out.2.2.1, ← HB.out]
        · have h7 := H5.out.again
          exact ⟨h7.cur, h7.grown⟩
    · have hb0 : ((bf : Int) == 0) = false := by rw [beq_eq_false_iff_ne]; omega
      have hs0 := hid h0
      clear h0
      by_cases h2 : bf = 2
      · have hb2 : ((bf : Int) == 2) = true := by rw [beq_iff_eq]; omega
        have hs2 := hid h2
        clear h2
        go_wp2_with fail
        refine (leb_uleb _ c l s1 hl H2.out.1.cur ((says_et H2.out.1 H0.out.2.1 H0.out.2.2.1).mono (fun h => H0.out.2.2.2 (says_bad1 H2.out.2.1 h)))).mono ?_
        rintro e w2 ⟨o, s2, hn2, rfl, hc2', hg2⟩
        have h4 := H2.out.1.call hc2' hg2
        have hz := h4.own
        have d1 := h4.cell 1
        have d3 := h4.cell 3
        simp at d1 d3
        have H4 := hid (And.intro h4 hn2)
        clear hc2' hg2 h4 hn2
        go_wp2_with fail
        obtain ⟨W, hW⟩ : ∃ W, W = ((w2.setCell ⟨X, 1, none⟩ (.int .i64 2)).setCell ⟨X, 3, none⟩ (.int .u64 (o : Int))) := ⟨_, rfl⟩
        rw [← hW]
        have hs := (H4.out.1.set 1 (.int .i64 2) _ rfl (fun n h => by cases h)).set 3 (.int .u64 (o : Int)) _ rfl (fun n h => by cases h)
        rw [← hW] at hs
        obtain ⟨V, hV⟩ : ∃ V : Exp, V = ⟨[], 2, wk, o, 0, 0, []⟩ := ⟨_, rfl⟩
        have hs' : SaysAt w W X c l s2 25 #[.string (mkS V.name), .int .i64 V.kind, .bool V.weak, .int .u64 (V.value : Int), .int .u64 (V.resolver : Int), .int .u64 (V.ordinal : Int), .string (mkS V.other)] := by rw [hV]; exact hs
        have c0 := hs'.cell 0
        have c1 := hs'.cell 1
        have c2 := hs'.cell 2
        have c3 := hs'.cell 3
        have c4 := hs'.cell 4
        have c5 := hs'.cell 5
        have c6 := hs'.cell 6
        have het := says_et hs' H0.out.2.1 H0.out.2.2.1
        simp only [List.getElem?_toArray, List.getElem?_cons_zero, List.getElem?_cons_succ] at c0 c1 c2 c3 c4 c5 c6
        have herr := cur_err_z c W.drew l _ false _ (CurAt.heap hs'.cur rfl) ((het.heap rfl).mono (fun h => H0.out.2.2.2 (by unfold saysC; rw [H2.out.2.1]; dsimp only; rw [← H2.out.2.2.2, if_neg hs8.out, if_neg hs0.out, if_pos hs2.out, H4.out.2]; exact h)))
        obtain ⟨B, hB⟩ : ∃ B, B = s2.bad := ⟨_, rfl⟩
        rw [← hB] at herr
        obtain ⟨E, hE⟩ : ∃ E : Int, E = if B = true then 3 else 0 := ⟨_, rfl⟩
        rw [← hE] at herr
        have hE0 : (E == 0) = !B := by rw [hE]; cases B <;> rfl
        clear hE
        have HB := hid hB
        clear hB
        have Herr := hid herr
        clear herr
        have Hs := hid (And.intro hs' (And.intro het hV))
        clear hs hs' het hV hW
        clear d1 d3 hz
        go_region_with (first | (go_at_call 121; (with_reducible refine Herr.out.mono ?_); rintro e w4 ⟨rfl, hb⟩; have hs4 := (Hs.out.1.heap (W' := W.drew) rfl rfl rfl rfl).below hb; have k0 : w4.cell? ⟨X, 0, none⟩ = _ := hs4.cell 0; have k1 : w4.cell? ⟨X, 1, none⟩ = _ := hs4.cell 1; have k2 : w4.cell? ⟨X, 2, none⟩ = _ := hs4.cell 2; have k3 : w4.cell? ⟨X, 3, none⟩ = _ := hs4.cell 3; have k4 : w4.cell? ⟨X, 4, none⟩ = _ := hs4.cell 4; have k5 : w4.cell? ⟨X, 5, none⟩ = _ := hs4.cell 5; have k6 : w4.cell? ⟨X, 6, none⟩ = _ := hs4.cell 6; have kz := hs4.own; simp only [List.getElem?_toArray, List.getElem?_cons_zero, List.getElem?_cons_succ] at k0 k1 k2 k3 k4 k5 k6; have H5 := hid hs4; clear hs4 hb))
        all_goals
          go_wp2_with fail
          refine bodyPost_ret (v := .tuple #[.agg V.cells.toArray, .bool (!B)]) (by simp [results, Tryz.results124, go_sem, Exp.cells, k0, k1, k2, k3, k4, k5, k6]) rfl ?_
          refine ⟨V, !B, s2, ?_, rfl, ?_⟩
          · rw [Hs.out.2.2]
            unfold saysC
            rw [H2.out.2.1]; dsimp only; rw [← H2.out.2.2.2, if_neg hs8.out, if_neg hs0.out, if_pos hs2.out, H4.out.2]; dsimp only; rw [← H2.out.2.2.1, ← HB.out]
          · have h7 := H5.out.again
            exact ⟨h7.cur, h7.grown⟩
      · have hb2 : ((bf : Int) == 2) = false := by rw [beq_eq_false_iff_ne]; omega
        have hs2 := hid h2
        clear h2
        by_cases h16 : bf = 16
        · have hb16 : ((bf : Int) == 16) = true := by rw [beq_iff_eq]; omega
          have hs16 := hid h16
          clear h16
          go_wp2_with fail
          refine (leb_uleb _ c l s1 hl H2.out.1.cur ((says_et H2.out.1 H0.out.2.1 H0.out.2.2.1).mono (fun h => H0.out.2.2.2 (says_bad1 H2.out.2.1 h)))).mono ?_
          rintro e w2 ⟨o, s2, hn2, rfl, hc2', hg2⟩
          have H3 := hid (And.intro (H2.out.1.call hc2' hg2) hn2)
          clear hc2' hg2 hn2
          go_wp2_with fail
          refine (leb_uleb _ c l s2 hl H3.out.1.cur ((says_et H3.out.1 H0.out.2.1 H0.out.2.2.1).mono (fun h => H0.out.2.2.2 (says_bad2 H2.out.2.1 (by rw [← H2.out.2.2.2]; exact hs16.out) H3.out.2 h)))).mono ?_
          rintro e w3 ⟨r, s3, hn3, rfl, hc3, hg3⟩
          have h4 := H3.out.1.call hc3 hg3
          have hz := h4.own
          have d1 := h4.cell 1
          have d3 := h4.cell 3
          have d4 := h4.cell 4
          simp at d1 d3 d4
          have H4 := hid (And.intro h4 hn3)
          clear hc3 hg3 h4 hn3
          go_wp2_with fail
          obtain ⟨W, hW⟩ : ∃ W, W = (((w3.setCell ⟨X, 1, none⟩ (.int .i64 4)).setCell ⟨X, 3, none⟩ (.int .u64 (o : Int))).setCell ⟨X, 4, none⟩ (.int .u64 (r : Int))) := ⟨_, rfl⟩
          rw [← hW]
          have hs := ((H4.out.1.set 1 (.int .i64 4) _ rfl (fun n h => by cases h)).set 3 (.int .u64 (o : Int)) _ rfl (fun n h => by cases h)).set 4 (.int .u64 (r : Int)) _ rfl (fun n h => by cases h)
          rw [← hW] at hs
          obtain ⟨V, hV⟩ : ∃ V : Exp, V = ⟨[], 4, wk, o, r, 0, []⟩ := ⟨_, rfl⟩
          have hs' : SaysAt w W X c l s3 25 #[.string (mkS V.name), .int .i64 V.kind, .bool V.weak, .int .u64 (V.value : Int), .int .u64 (V.resolver : Int), .int .u64 (V.ordinal : Int), .string (mkS V.other)] := by rw [hV]; exact hs
          have c0 := hs'.cell 0
          have c1 := hs'.cell 1
          have c2 := hs'.cell 2
          have c3 := hs'.cell 3
          have c4 := hs'.cell 4
          have c5 := hs'.cell 5
          have c6 := hs'.cell 6
          have het := says_et hs' H0.out.2.1 H0.out.2.2.1
          simp only [List.getElem?_toArray, List.getElem?_cons_zero, List.getElem?_cons_succ] at c0 c1 c2 c3 c4 c5 c6
          have herr := cur_err_z c W.drew l _ false _ (CurAt.heap hs'.cur rfl) ((het.heap rfl).mono (fun h => H0.out.2.2.2 (by unfold saysC; rw [H2.out.2.1]; dsimp only; rw [← H2.out.2.2.2, if_neg hs8.out, if_neg hs0.out, if_neg hs2.out, if_pos hs16.out, H3.out.2]; dsimp only; rw [H4.out.2]; exact h)))
          obtain ⟨B, hB⟩ : ∃ B, B = s3.bad := ⟨_, rfl⟩
          rw [← hB] at herr
          obtain ⟨E, hE⟩ : ∃ E : Int, E = if B = true then 3 else 0 := ⟨_, rfl⟩
          rw [← hE] at herr
          have hE0 : (E == 0) = !B := by rw [hE]; cases B <;> rfl
          clear hE
          have HB := hid hB
          clear hB
          have Herr := hid herr
          clear herr
          have Hs := hid (And.intro hs' (And.intro het hV))
          clear hs hs' het hV hW
          clear d1 d3 d4 hz
          go_region_with (first | (go_at_call 121; (with_reducible refine Herr.out.mono ?_); rintro e w4 ⟨rfl, hb⟩; have hs4 := (Hs.out.1.heap (W' := W.drew) rfl rfl rfl rfl).below hb; have k0 : w4.cell? ⟨X, 0, none⟩ = _ := hs4.cell 0; have k1 : w4.cell? ⟨X, 1, none⟩ = _ := hs4.cell 1; have k2 : w4.cell? ⟨X, 2, none⟩ = _ := hs4.cell 2; have k3 : w4.cell? ⟨X, 3, none⟩ = _ := hs4.cell 3; have k4 : w4.cell? ⟨X, 4, none⟩ = _ := hs4.cell 4; have k5 : w4.cell? ⟨X, 5, none⟩ = _ := hs4.cell 5; have k6 : w4.cell? ⟨X, 6, none⟩ = _ := hs4.cell 6; have kz := hs4.own; simp only [List.getElem?_toArray, List.getElem?_cons_zero, List.getElem?_cons_succ] at k0 k1 k2 k3 k4 k5 k6; have H5 := hid hs4; clear hs4 hb))
          all_goals
            go_wp2_with fail
            refine bodyPost_ret (v := .tuple #[.agg V.cells.toArray, .bool (!B)]) (by simp [results, Tryz.results124, go_sem, Exp.cells, k0, k1, k2, k3, k4, k5, k6]) rfl ?_
            refine ⟨V, !B, s3, ?_, rfl, ?_⟩
            · rw [Hs.out.2.2]
              unfold saysC
              rw [H2.out.2.1]; dsimp only; rw [← H2.out.2.2.2, if_neg hs8.out, if_neg hs0.out, if_neg hs2.out, if_pos hs16.out, H3.out.2]; dsimp only; rw [H4.out.2]; dsimp only; rw [← H2.out.2.2.1, ← HB.out]
            · have h7 := H5.out.again
              exact ⟨h7.cur, h7.grown⟩
        · have hb16 : ((bf : Int) == 16) = false := by rw [beq_eq_false_iff_ne]; omega
          have hs16 := hid h16
          clear h16
          have hz := H2.out.1.own
          have b0 := H2.out.1.cell 0
          have b1 := H2.out.1.cell 1
          have b3 := H2.out.1.cell 3
          have b4 := H2.out.1.cell 4
          have b5 := H2.out.1.cell 5
          have b6 := H2.out.1.cell 6
          rw [World.cell?_setCell_other _ _ _ _ (by simp)] at b0 b1 b3 b4 b5 b6
          simp at b0 b1 b3 b4 b5 b6
          simp only [World.frozen?_setCell] at hz
          go_wp2_with fail
          refine bodyPost_ret (v := .tuple #[.agg (Exp.mk [] 0 wk 0 0 0 []).cells.toArray, .bool false]) (by simp [results, Tryz.results124, go_sem, Exp.cells, mkS, b0, b1, hc2, b3, b4, b5, b6]) rfl ?_
          refine ⟨⟨[], 0, wk, 0, 0, 0, []⟩, false, s1, ?_, rfl, ?_⟩
          · unfold saysC
            rw [H2.out.2.1]; dsimp only; rw [← H2.out.2.2.2, if_neg hs8.out, if_neg hs0.out, if_neg hs2.out, if_neg hs16.out, ← H2.out.2.2.1]
          · have h7 := SaysAt.again (V := ⟨[], 0, wk, 0, 0, 0, []⟩) H2.out.1
            exact ⟨h7.cur, h7.grown⟩
end Go.Proofs.YthhjdkcnkdffcaaGreat.Eb

namespace Go.Proofs.YthhjdkcnkdffcaaGreat.Eb
set_option linter.unusedSimpArgs false
set_option linter.unusedVariables false
open Go.RowKit
theorem head_bad {l : List UInt8} {at_ size k : Nat} (hs : 0 < size) (h : (saysC l ⟨at_ + k, false⟩).2.2.bad = true) : headM l at_ size k = none := by
  unfold headM
  rw [if_neg (by omega)]
  have hR := saysC_R l (at_ + k)
  cases hr : saysR (l.drop (at_ + k)) with
  | none => rfl
  | some p =>
    obtain ⟨x, n⟩ := p
    rw [hr] at hR
    dsimp only at hR
    rw [hR] at h
    cases h
theorem text_bad {l : List UInt8} {m : Nat} {s s' : Cu} {t : List UInt8} (h : textC l m s = (t, s')) (hb : s'.bad = true) : t = [] := by
  unfold textC at h
  split at h
  · cases h; rfl
  · split at h
    · cases h; cases hb
    · cases h; rfl
theorem rest_bad {l : List UInt8} {n : Nat} {s s6 : Cu} {acc : List KidM} {t : List UInt8} (h : textC l 255 s = (t, s6)) (hb : s6.bad = true) (hn : 0 < n) : restM l n s acc = none := by
  obtain ⟨n, rfl⟩ : ∃ k, n = k + 1 := ⟨n - 1, by omega⟩
  obtain ⟨⟨o, s7⟩, h2⟩ : ∃ p, numC l s6 = p := ⟨_, rfl⟩
  rw [restM_step l n s s6 s7 acc t o h h2, if_pos (text_bad h hb)]
set_option maxHeartbeats 2000000 in
set_option maxRecDepth 4000 in
theorem trie_read {Bad : Prop} (w : World) (c k at_ : Nat) (l : List UInt8) (hl : l.length ≤ 140737488355328) (hne : l ≠ []) (hcu : CurAt w c l k false false) (het : EZ Bad w) (hbd : readM l at_ = none → Bad) (hat : at_ ≤ l.length) :
    Calls Tryz.prog 109 #[.pointer (some ⟨c, 0, none⟩), .int .i64 (l.length : Nat), .int .i64 (at_ : Nat)] w fun e w' =>
      ∃ nv b, e = .returned (.tuple #[nv, .bool b]) ∧ ReadEnd w w' c l at_ nv b := by
  have hcg := het.ne hcu
  have hclt := CurAt.lt hcu
  have h0 : SaysAt w (w.alloc (.cells #[.string ⟨#[]⟩, .int .i64 0, .bool false, .int .u64 0, .int .u64 0, .int .u64 0, .string ⟨#[]⟩, .bool false, .slice none 0 0] 189)) w.heap.size c l ⟨k, false⟩ 189 #[.string ⟨#[]⟩, .int .i64 0, .bool false, .int .u64 0, .int .u64 0, .int .u64 0, .string ⟨#[]⟩, .bool false, .slice none 0 0] :=
    ⟨heap_alloc_new w _, CurAt.below hcu ((Below.refl _ _).alloc (Nat.le_refl _) _), World.grownBy_alloc w _ _, Nat.le_refl _, by omega⟩
  have H0 := hid (And.intro h0 (And.intro het (And.intro hcg hbd)))
  have HC := hid hclt
  obtain ⟨X, hX⟩ : ∃ X, X = w.heap.size := ⟨_, rfl⟩
  have HX := hid hX
  clear hcu het hcg hclt h0 hbd
  go_enter Tryz.func109, Tryz.ntmps109
  go_wp2_with fail
  refine (cur_seek_ok c _ l _ at_ (at_ : Int) false H0.out.1.cur rfl hat).mono ?_
  rintro e w1 ⟨rfl, hc1, hg1⟩
  have h1 : SaysAt w w1 w.heap.size c l ⟨at_, false⟩ _ _ := H0.out.1.call hc1 hg1
  rw [← hX] at h1
  rw [← hX]
  have H1 := hid h1
  clear hc1 hg1 h1 hX
  go_wp2_with fail
  refine (leb_uleb _ c l _ hl H1.out.cur (fun h => by cases h)).mono ?_
  rintro e w2 ⟨size, s2, hn2, rfl, hc2, hg2⟩
  have h2 := H1.out.call hc2 hg2
  have hsz := numC_lt hn2
  cases hu : ulebM (l.drop at_) with
  | none =>
    rw [numC_none hu] at hn2
    cases hn2
    have H2 := hid (And.intro h2 hu)
    clear h2 hc2 hg2 hu
    go_wp2_with fail
    refine (cur_err_z c w2 l at_ false true H2.out.1.cur ((says_et H2.out.1 H0.out.2.1 H0.out.2.2.1).mono (fun _ => H0.out.2.2.2 (readM_none H2.out.2)))).mono ?_
    rintro e w3 ⟨rfl, hb3⟩
    have h3 := H2.out.1.below hb3
    have z0 := h3.cell 0
    have z1 := h3.cell 1
    have z2 := h3.cell 2
    have z3 := h3.cell 3
    have z4 := h3.cell 4
    have z5 := h3.cell 5
    have z6 := h3.cell 6
    have z7 := h3.cell 7
    have z8 := h3.cell 8
    have hz := h3.own
    simp at z0 z1 z2 z3 z4 z5 z6 z7 z8
    have H3 := hid h3
    clear h3 hb3
    go_wp2_with fail
    refine bodyPost_ret (v := .tuple #[.agg #[.string ⟨#[]⟩, .int .i64 0, .bool false, .int .u64 0, .int .u64 0, .int .u64 0, .string ⟨#[]⟩, .bool false, .slice none 0 0], .bool false]) (by simp [results, Tryz.results109, go_sem, z0, z1, z2, z3, z4, z5, z6, z7, z8]) rfl ?_
    have h4 := H3.out.zeroed
    refine ⟨_, false, rfl, ⟨_, h4.cur, fun h => by cases h⟩, h4.grown, Exp.zero, false, .slice none 0 0, rfl, ⟨none, 0, 0, rfl⟩, ?_⟩
    rw [readM_none H2.out.2]
  | some p =>
    obtain ⟨n', k'⟩ := p
    rw [numC_some hu] at hn2
    obtain ⟨rfl, rfl⟩ := Prod.mk.inj hn2
    have hul := ulebM_lt hu
    rw [List.length_drop] at hul
    have H2 := hid (And.intro h2 hu)
    clear h2 hc2 hg2 hu hn2
    have hcw := H2.out.1.cur
    obtain ⟨pp, cap, g0, g1, hk2⟩ : ∃ p cap, w2.cell? ⟨c, 0, none⟩ = some (.slice p l.length cap) ∧ w2.cell? ⟨c, 1, none⟩ = some (.int .i64 ((at_ + k' : Nat) : Int)) ∧ at_ + k' ≤ l.length := by
      obtain ⟨v, hv, hb, hkj, hc⟩ := hcw
      obtain ⟨p, cap, rfl, _⟩ := id hv
      exact ⟨p, cap, (cur_cells hc).1.1, (cur_cells hc).1.2.1, hkj⟩
    clear hcw
    have Hg := hid (And.intro g0 g1)
    clear g0 g1
    go_wp2_with fail
    refine (cur_err_z c w2 l (at_ + k') false false H2.out.1.cur (fun h => by cases h)).mono ?_
    rintro e w3 ⟨rfl, hb3⟩
    have h3 := H2.out.1.below hb3
    have g0 := (hb3.cell (p := ⟨c, 0, none⟩) (lt_of_cellB Hg.out.1)).trans Hg.out.1
    have g1 := (hb3.cell (p := ⟨c, 1, none⟩) (lt_of_cellB Hg.out.1)).trans Hg.out.2
    have H3 := hid h3
    clear h3 hb3
    have hwl : IntKind.u64.wrap ((l.length : Int) - ((at_ + k' : Nat) : Int)) = ((l.length - (at_ + k') : Nat) : Int) := by rw [show (l.length : Int) - ((at_ + k' : Nat) : Int) = ((l.length - (at_ + k') : Nat) : Int) from by omega]; exact IntWalk.u64_in _ (by omega)
    go_wp2_with fail
    refine (cur_left c w3 pp l.length cap (at_ + k') hk2 hl g0 g1).mono ?_
    rintro e w4 ⟨rfl, q, rfl⟩
    have h3' : SaysAt w (w3.drewN q) X c l ⟨at_ + k', false⟩ _ _ := H3.out.heap rfl rfl rfl rfl
    have g1' : (w3.drewN q).cell? ⟨c, 1, none⟩ = some (.int .i64 ((at_ + k' : Nat) : Int)) := g1
    obtain ⟨W3, hW3⟩ : ∃ W, W = w3.drewN q := ⟨_, rfl⟩
    rw [← hW3] at h3' g1' ⊢
    clear g0 g1 hW3
    have Hg1 := hid g1'
    clear g1'
    obtain ⟨LL, hLL⟩ : ∃ LL : Int, LL = (l.length : Int) - ((at_ + k' : Nat) : Int) := ⟨_, rfl⟩
    rw [← hLL] at hwl ⊢
    obtain ⟨lf, hlf⟩ : ∃ lf, lf = l.length - (at_ + k') := ⟨_, rfl⟩
    rw [← hlf] at hwl
    have Hlf := hid (And.intro hLL hlf)
    have H4 := hid h3'
    clear hLL h3'
    by_cases hbig : lf < n'
    · have hd : decide ((lf : Int) < (n' : Int)) = true := by simp; omega
      have hd2 : decide (lf < n') = true := by simp; omega
      have Hbig := hid hbig
      have z0 := H4.out.cell 0
      have z1 := H4.out.cell 1
      have z2 := H4.out.cell 2
      have z3 := H4.out.cell 3
      have z4 := H4.out.cell 4
      have z5 := H4.out.cell 5
      have z6 := H4.out.cell 6
      have z7 := H4.out.cell 7
      have z8 := H4.out.cell 8
      have hz := H4.out.own
      simp at z0 z1 z2 z3 z4 z5 z6 z7 z8
      clear hbig hlf
      go_wp2_with fail
      refine bodyPost_ret (v := .tuple #[.agg #[.string ⟨#[]⟩, .int .i64 0, .bool false, .int .u64 0, .int .u64 0, .int .u64 0, .string ⟨#[]⟩, .bool false, .slice none 0 0], .bool false]) (by simp [results, Tryz.results109, go_sem, z0, z1, z2, z3, z4, z5, z6, z7, z8]) rfl ?_
      have h4 := H4.out.zeroed
      refine ⟨_, false, rfl, ⟨_, h4.cur, fun h => by cases h⟩, h4.grown, Exp.zero, false, .slice none 0 0, rfl, ⟨none, 0, 0, rfl⟩, ?_⟩
      rw [readM_big H2.out.2 (by have h1 := Hlf.out.2; have h2 := Hbig.out; omega)]
    · have hd : decide ((lf : Int) < (n' : Int)) = false := by simp; omega
      have hd2 : decide (lf < n') = false := by simp; omega
      have Hbig := hid hbig
      clear hbig hlf
      go_wp2_with fail
      refine (cur_at c W3 (at_ + k') Hg1.out).mono ?_
      rintro e w4 ⟨rfl, rfl⟩
      go_upto_if 31 with fail
      go_cut [7] (fun b wx => ∃ x, HeadAt w wx X c l at_ n' k' x)
      case first =>
        cases hP : decide (0 < n') with
        | false =>
          have Hz0 := hid hP
          clear hP
          go_wp2_with fail
          go_meet
          have hz0 : n' = 0 := by have := Hz0.out; simp at this; exact this
          refine ⟨Exp.zero, ?_, ?_⟩
          · have h := H4.out
            rw [Hz0.out, show at_ + k' + n' = at_ + k' from by omega]
            exact h
          · unfold headM; rw [if_pos hz0]
        | true =>
          have Hz0 := hid hP
          clear hP
          have y7 := H4.out.cell 7
          have hz := H4.out.own
          simp at y7
          have H5 := hid (H4.out.set 7 (.bool true) _ rfl (fun n h => by cases h))
          go_wp2_with fail
          clear y7 hz
          refine (trie_says _ c l _ hl hne H5.out.cur (says_et H5.out H0.out.2.1 H0.out.2.2.1) (fun h => H0.out.2.2.2 (readM_no H2.out.2 (head_bad (by have := Hz0.out; simpa using this) h)))).mono ?_
          rintro e w5 ⟨x, b, s5, hsc, rfl, hc5, hg5⟩
          have h6 := H5.out.call hc5 hg5
          have y0 := h6.cell 0
          have y1 := h6.cell 1
          have y2 := h6.cell 2
          have y3 := h6.cell 3
          have y4 := h6.cell 4
          have y5 := h6.cell 5
          have y6 := h6.cell 6
          have y7 := h6.cell 7
          have y8 := h6.cell 8
          have hz := h6.own
          simp at y0 y1 y2 y3 y4 y5 y6 y7 y8
          have H6 := hid h6
          clear hc5 hg5 h6
          have hR := saysC_R l (at_ + k')
          rw [hsc] at hR
          rw [show x.cells.toArray = #[.string (mkS x.name), .int .i64 x.kind, .bool x.weak, .int .u64 (x.value : Int), .int .u64 (x.resolver : Int), .int .u64 (x.ordinal : Int), .string (mkS x.other)] from rfl]
          have Hn0 : 0 < n' := by have := Hz0.out; simpa using this
          cases hr : saysR (l.drop (at_ + k')) with
          | none =>
            have hb : b = false := by
              rw [hr] at hR
              exact hR
            subst hb
            have Hr := hid hr
            clear hr hR hsc
            go_upto_if 49 with fail
            obtain ⟨W6, hW6⟩ : ∃ W, W = (((((((w5.setCell ⟨X, 0, none⟩ (.string (mkS x.name))).setCell ⟨X, 1, none⟩ (.int .i64 x.kind)).setCell ⟨X, 2, none⟩ (.bool x.weak)).setCell ⟨X, 3, none⟩ (.int .u64 (x.value : Int))).setCell ⟨X, 4, none⟩ (.int .u64 (x.resolver : Int))).setCell ⟨X, 5, none⟩ (.int .u64 (x.ordinal : Int))).setCell ⟨X, 6, none⟩ (.string (mkS x.other))) := ⟨_, rfl⟩
            rw [← hW6]
            have h7 := SaysAt.said x H6.out
            rw [← hW6] at h7
            have H7 := hid h7
            clear hW6 h7 y0 y1 y2 y3 y4 y5 y6 y7 y8 hz
            have z0 := H7.out.cell 0
            have z1 := H7.out.cell 1
            have z2 := H7.out.cell 2
            have z3 := H7.out.cell 3
            have z4 := H7.out.cell 4
            have z5 := H7.out.cell 5
            have z6 := H7.out.cell 6
            have z7 := H7.out.cell 7
            have z8 := H7.out.cell 8
            have hz := H7.out.own
            simp at z0 z1 z2 z3 z4 z5 z6 z7 z8
            go_wp2_with fail
            refine bodyPost_ret (v := .tuple #[.agg #[.string ⟨#[]⟩, .int .i64 0, .bool false, .int .u64 0, .int .u64 0, .int .u64 0, .string ⟨#[]⟩, .bool false, .slice none 0 0], .bool false]) (by simp [results, Tryz.results109, go_sem, z0, z1, z2, z3, z4, z5, z6, z7, z8]) rfl ?_
            have h4 := H7.out.zeroed
            refine ⟨_, false, rfl, ⟨_, h4.cur, fun h => by cases h⟩, h4.grown, Exp.zero, false, .slice none 0 0, rfl, ⟨none, 0, 0, rfl⟩, ?_⟩
            rw [readM_no H2.out.2 (by unfold headM; rw [if_neg (by omega), Hr.out])]
          | some p =>
            obtain ⟨y, k2⟩ := p
            rw [hr] at hR
            obtain ⟨rfl, rfl, rfl⟩ : x = y ∧ b = true ∧ s5 = ⟨at_ + k' + k2, false⟩ := by
              have := hR; simp only [Prod.mk.injEq] at this; exact this
            have Hr := hid hr
            clear hr hR hsc
            go_wp2_with fail
            obtain ⟨W6, hW6⟩ : ∃ W, W = (((((((w5.setCell ⟨X, 0, none⟩ (.string (mkS x.name))).setCell ⟨X, 1, none⟩ (.int .i64 x.kind)).setCell ⟨X, 2, none⟩ (.bool x.weak)).setCell ⟨X, 3, none⟩ (.int .u64 (x.value : Int))).setCell ⟨X, 4, none⟩ (.int .u64 (x.resolver : Int))).setCell ⟨X, 5, none⟩ (.int .u64 (x.ordinal : Int))).setCell ⟨X, 6, none⟩ (.string (mkS x.other))) := ⟨_, rfl⟩
            rw [← hW6]
            have h7 := SaysAt.said x H6.out
            rw [← hW6] at h7
            have hpl : W6.cell? ⟨c, 1, none⟩ = some (.int .i64 ((at_ + k' + k2 : Nat) : Int)) ∧ at_ + k' + k2 ≤ l.length := by
              obtain ⟨v, hv, hb, hkj, hc⟩ := h7.cur
              exact ⟨(cur_cells hc).1.2.1, hkj⟩
            have H7 := hid h7
            clear hW6 h7 y0 y1 y2 y3 y4 y5 y6 y7 y8 hz
            refine (cur_at c W6 (at_ + k' + k2) hpl.1).mono ?_
            rintro e w8 ⟨rfl, rfl⟩
            have hwk : IntKind.u64.wrap (((at_ + k' + k2 : Nat) : Int) - ((at_ + k' : Nat) : Int)) = (k2 : Int) := by rw [show ((at_ + k' + k2 : Nat) : Int) - ((at_ + k' : Nat) : Int) = (k2 : Int) from by omega]; exact IntWalk.u64_in _ (by omega)
            have hne2 : ((at_ : Int) + (k' : Int) + (k2 : Int) - ((at_ : Int) + (k' : Int)) != (n' : Int)) = !decide (k2 = n') := by
              rw [show (at_ : Int) + (k' : Int) + (k2 : Int) - ((at_ : Int) + (k' : Int)) = (k2 : Int) from by omega]
              by_cases h : k2 = n'
              · subst h; simp
              · rw [decide_eq_false h]; simp; omega
            cases hQ : decide (k2 = n') with
            | false =>
              rw [hQ] at hne2
              have HQ := hid hQ
              clear hQ
              have z0 := H7.out.cell 0
              have z1 := H7.out.cell 1
              have z2 := H7.out.cell 2
              have z3 := H7.out.cell 3
              have z4 := H7.out.cell 4
              have z5 := H7.out.cell 5
              have z6 := H7.out.cell 6
              have z7 := H7.out.cell 7
              have z8 := H7.out.cell 8
              have hz := H7.out.own
              simp at z0 z1 z2 z3 z4 z5 z6 z7 z8
              go_wp2_with fail
              refine bodyPost_ret (v := .tuple #[.agg #[.string ⟨#[]⟩, .int .i64 0, .bool false, .int .u64 0, .int .u64 0, .int .u64 0, .string ⟨#[]⟩, .bool false, .slice none 0 0], .bool false]) (by simp [results, Tryz.results109, go_sem, z0, z1, z2, z3, z4, z5, z6, z7, z8]) rfl ?_
              have h4 := H7.out.zeroed
              refine ⟨_, false, rfl, ⟨_, h4.cur, fun h => by cases h⟩, h4.grown, Exp.zero, false, .slice none 0 0, rfl, ⟨none, 0, 0, rfl⟩, ?_⟩
              rw [readM_no H2.out.2 (by unfold headM; rw [if_neg (by omega), Hr.out]; dsimp only; rw [if_neg (by have := HQ.out; simpa using this)])]
            | true =>
              rw [hQ] at hne2
              have HQ := hid hQ
              clear hQ
              go_wp2_with fail
              go_meet
              have e : k2 = n' := by have := HQ.out; simpa using this
              refine ⟨x, ?_, ?_⟩
              · have h := H7.out
                rw [Hz0.out, ← e]
                exact h
              · unfold headM; rw [if_neg (by omega), Hr.out]; dsimp only; rw [if_pos e]
      case rest =>
        obtain ⟨x, hx⟩ := hcut
        have hk0 : KidsIn w _ X wc.heap.size c l ⟨at_ + k' + n', false⟩ x (decide (0 < n')) (.slice none 0 0) [] Tryz.zeroCells207 := KidsIn.start hx.row HC.out _
        have Hk0 := hid hk0
        have Hx := hid hx.eq
        clear hx hk0
        go_wp2_with fail
        refine (cur_num1 c _ l ⟨at_ + k' + n', false⟩ Hk0.out.cur hl).mono ?_
        rintro e w5 ⟨m, s5, hnum, rfl, hc5, hg5⟩
        have hm := num1_lt hnum
        have H5 := hid (And.intro (Hk0.out.call hc5 hg5) hnum)
        clear hc5 hg5 hnum
        obtain ⟨F, hF⟩ : ∃ F, F = wc.heap.size := ⟨_, rfl⟩
        rw [← hF] at H5 ⊢
        clear hF
        go_wp2_with fail
        go_loopw [53] (fun i wr => ∃ j acc A s kv, j ≤ m ∧ i = .int .u64 ((j : Nat) : Int) ∧ acc.length ≤ j ∧ Aside (KidsIn w wr X F c l s x (decide (0 < n')) kv acc A) ∧ Aside (FirstsOf A acc) ∧ Aside (restM l m s5 [] = restM l (m - j) s acc)) (fun i _ => m - (intOf i).toNat)
        case atStart => exact ⟨0, [], _, s5, _, Nat.zero_le _, rfl, Nat.le_refl _, H5.out.1, firsts_none, rfl⟩
        case round =>
          obtain ⟨j, acc, A, s, kv, hj, rfl, hacc, hk, hfi, hre⟩ := hrel
          have Hk := hid hk.out
          have Hre := hid (And.intro hfi.out hre.out)
          clear hk hfi hre
          by_cases hlt : j < m
          · have hltz : decide ((j : Int) < (m : Int)) = true := by simp; omega
            go_wp2_with fail
            refine (cur_text c _ l s Hk.out.cur hne).mono ?_
            rintro e w6 ⟨t, s6, htx, rfl, hc6, hg6⟩
            have H6 := hid (Hk.out.call hc6 hg6)
            have Htx := hid htx
            clear hc6 hg6 htx
            go_wp2_with fail
            have h7 := H6.out.below ((Below.refl _ _).alloc (Nat.le_refl _) (.cells #[.string (mkS t), .int .i64 0] 193))
            have hK : RowAt (w6.alloc (.cells #[.string (mkS t), .int .i64 0] 193)) w6.heap.size 193 _ := heap_alloc_new w6 _
            have hKX : X ≠ w6.heap.size := Nat.ne_of_lt H6.out.row.lt
            have hKF : F ≠ w6.heap.size := Nat.ne_of_lt H6.out.fir.lt
            have hKkv : kv.ownBlock ≠ some w6.heap.size := fun h => Nat.lt_irrefl _ (World.ownsRow.lt H6.out.own _ h).2
            have hKw : w.heap.size ≤ w6.heap.size := H6.out.size
            obtain ⟨K, hKe⟩ : ∃ K, K = w6.heap.size := ⟨_, rfl⟩
            rw [← hKe] at hK hKX hKF hKkv hKw ⊢
            clear hKe
            have hcw := HC.out
            refine (leb_uleb _ c l s6 hl h7.cur ((says_et h7.says H0.out.2.1 H0.out.2.2.1).mono (fun h => H0.out.2.2.2 (by rw [readM_rest H2.out.2 (by have h1 := Hlf.out.2; have h2 := Hbig.out; omega) Hx.out m s5 H5.out.2, Hre.out.2, rest_bad Htx.out h (by omega)]; rfl)))).mono ?_
            rintro e w7 ⟨tv, s7, hto, rfl, hc7, hg7⟩
            have h8 := h7.call hc7 hg7
            have hK7 : RowAt w7 K _ _ := hK.grown hg7 (fun h => by have := Option.some.inj h; omega)
            have hto64 := numC_lt hto
            have k0 : w7.cell? ⟨K, 0, none⟩ = some (.string (mkS t)) := cell_of_row w7 K 0 _ _ _ hK7
            have k1 : w7.cell? ⟨K, 1, none⟩ = some (.int .i64 0) := cell_of_row w7 K 1 _ _ _ hK7
            have kf : ∀ i, w7.frozen? ⟨K, i, none⟩ = false := fun i => frozen_of_row w7 K i _ _ hK7
            have Hne := hid (And.intro hKX (And.intro hKF (And.intro hKkv hKw)))
            have H8 := hid (And.intro h8 (And.intro hto hK7))
            clear h7 hK hKX hKF hKkv hKw hc7 hg7 h8 hK7 hto hcw
            go_wp2_with fail
            refine (trie_place w7 tv l.length hto64 hl).mono ?_
            rintro e w8 ⟨rfl, rfl⟩
            have hst : restM l m s5 [] = if t = [] then none else if acc.any (fun x => x.edge.head? == t.head?) then none else restM l (m - (j + 1)) s7 (acc ++ [⟨t, placeM tv l.length⟩]) := by
              rw [Hre.out.2, show m - j = (m - (j + 1)) + 1 from by omega]; exact restM_step l _ s s6 s7 acc t tv Htx.out H8.out.2.1
            have Hst := hid hst
            clear hst
            cases t with
            | nil =>
              go_upto_if 72 with fail
              obtain ⟨W9, hW9⟩ : ∃ W, W = w8.setCell ⟨K, 1, none⟩ (.int .i64 (placeM tv l.length)) := ⟨_, rfl⟩
              rw [← hW9]
              have h9 := H8.out.1.setK (i := 1) Hne.out.2.2.2 Hne.out.1 Hne.out.2.1 Hne.out.2.2.1 (.int .i64 (placeM tv l.length))
              rw [← hW9] at h9
              obtain ⟨kp, kc, hkv⟩ := h9.form
              subst hkv
              have H9 := hid h9.says
              clear h9 hW9 k0 k1 kf
              have z0 := H9.out.cell 0
              have z1 := H9.out.cell 1
              have z2 := H9.out.cell 2
              have z3 := H9.out.cell 3
              have z4 := H9.out.cell 4
              have z5 := H9.out.cell 5
              have z6 := H9.out.cell 6
              have z7 := H9.out.cell 7
              have z8 := H9.out.cell 8
              have hz := H9.out.own
              simp [nodeCells] at z0 z1 z2 z3 z4 z5 z6 z7 z8
              go_wp2_with fail
              refine bodyPost_ret (v := .tuple #[.agg #[.string ⟨#[]⟩, .int .i64 0, .bool false, .int .u64 0, .int .u64 0, .int .u64 0, .string ⟨#[]⟩, .bool false, .slice none 0 0], .bool false]) (by simp [results, Tryz.results109, go_sem, z0, z1, z2, z3, z4, z5, z6, z7, z8]) rfl ?_
              have h4 := SaysAt.zeroed H9.out
              refine ⟨_, false, rfl, ⟨_, h4.cur, fun h => by cases h⟩, h4.grown, Exp.zero, false, .slice none 0 0, rfl, ⟨none, 0, 0, rfl⟩, ?_⟩
              rw [readM_rest H2.out.2 (by have h1 := Hlf.out.2; have h2 := Hbig.out; omega) Hx.out m s5 H5.out.2, Hst.out, if_pos trivial]
              rfl
            | cons b r =>
              obtain ⟨fb, hfb⟩ : ∃ fb, fb = acc.any (fun k => k.edge.head? == some b) := ⟨_, rfl⟩
              have hFc : w8.cell? ⟨F, b.toNat, none⟩ = some (.bool fb) := by rw [cell_of_row w8 F b.toNat _ _ _ H8.out.1.fir, Hre.out.1.2 b, hfb]
              have hb256 : (b.toNat : Int) < 256 := by have := b.toNat_lt; omega
              have hb0 : (0 : Int) ≤ (b.toNat : Int) := by omega
              have hKF' : F ≠ K := Hne.out.2.1
              have Hfb := hid hfb
              clear hfb
              go_upto_if 72 with fail
              obtain ⟨W9, hW9⟩ : ∃ W, W = w8.setCell ⟨K, 1, none⟩ (.int .i64 (placeM tv l.length)) := ⟨_, rfl⟩
              rw [← hW9]
              have h9 := H8.out.1.setK (i := 1) Hne.out.2.2.2 Hne.out.1 Hne.out.2.1 Hne.out.2.2.1 (.int .i64 (placeM tv l.length))
              rw [← hW9] at h9
              have hK9 : RowAt W9 K 193 #[.string (mkS (b :: r)), .int .i64 (placeM tv l.length)] := by
                rw [hW9]; unfold RowAt; rw [heap_setCell_same _ _ _ _ _ _ H8.out.2.2]; rfl
              clear hFc hKF'
              cases fb with
              | true =>
                clear hK9
                obtain ⟨kp, kc, hkv⟩ := h9.form
                subst hkv
                have H9 := hid h9.says
                clear h9 hW9 k0 k1 kf
                have z0 := H9.out.cell 0
                have z1 := H9.out.cell 1
                have z2 := H9.out.cell 2
                have z3 := H9.out.cell 3
                have z4 := H9.out.cell 4
                have z5 := H9.out.cell 5
                have z6 := H9.out.cell 6
                have z7 := H9.out.cell 7
                have z8 := H9.out.cell 8
                have hz := H9.out.own
                simp [nodeCells] at z0 z1 z2 z3 z4 z5 z6 z7 z8
                go_wp2_with fail
                refine bodyPost_ret (v := .tuple #[.agg #[.string ⟨#[]⟩, .int .i64 0, .bool false, .int .u64 0, .int .u64 0, .int .u64 0, .string ⟨#[]⟩, .bool false, .slice none 0 0], .bool false]) (by simp [results, Tryz.results109, go_sem, z0, z1, z2, z3, z4, z5, z6, z7, z8]) rfl ?_
                have h4 := SaysAt.zeroed H9.out
                refine ⟨_, false, rfl, ⟨_, h4.cur, fun h => by cases h⟩, h4.grown, Exp.zero, false, .slice none 0 0, rfl, ⟨none, 0, 0, rfl⟩, ?_⟩
                rw [readM_rest H2.out.2 (by have h1 := Hlf.out.2; have h2 := Hbig.out; omega) Hx.out m s5 H5.out.2, Hst.out, if_neg (by simp), if_pos (by have := Hfb.out; simpa using this.symm)]
                rfl
              | false =>
                have hFc : W9.cell? ⟨F, b.toNat, none⟩ = some (.bool false) := by rw [cell_of_row W9 F b.toNat _ _ _ h9.fir, Hre.out.1.2 b, Hfb.out]
                have hFf : W9.frozen? ⟨F, b.toNat, none⟩ = false := frozen_of_row W9 F b.toNat _ _ h9.fir
                have k0 : W9.cell? ⟨K, 0, none⟩ = some (.string (mkS (b :: r))) := cell_of_row W9 K 0 _ _ _ hK9
                have h10 := h9.setF b.toNat (.bool true)
                have hK10 := hK9.other (Ne.symm Hne.out.2.1) (i := b.toNat) (.bool true)
                clear hW9 h9 hK9
                go_upto_region 19 with fail
                obtain ⟨W10, hW10⟩ : ∃ W, W = W9.setCell ⟨F, b.toNat, none⟩ (.bool true) := ⟨_, rfl⟩
                rw [← hW10] at h10 hK10 ⊢
                clear hW10 hFc hFf k0
                obtain ⟨kp, kc, hkv⟩ := h10.form
                subst hkv
                have x8 : W10.cell? ⟨X, 8, none⟩ = some (.slice kp acc.length kc) := cell_of_row W10 X 8 _ _ _ h10.row
                have xf : W10.frozen? ⟨X, 8, none⟩ = false := frozen_of_row W10 X 8 _ _ h10.row
                have k0 : W10.cell? ⟨K, 0, none⟩ = some (.string (mkS (b :: r))) := cell_of_row W10 K 0 _ _ _ hK10
                have k1 : W10.cell? ⟨K, 1, none⟩ = some (.int .i64 (placeM tv l.length)) := cell_of_row W10 K 1 _ _ _ hK10
                have hsz10 := h10.size
                obtain ⟨i0, hi, hz0, hz1, hz2⟩ := info_parts Tryz.infoKid
                have H10 := hid (And.intro h10 (And.intro hK10 (And.intro hi (And.intro hz0 (And.intro hz1 hz2)))))
                clear h10 hK10 hi hz0 hz1 hz2
                go_wp2_with (at_builtin; refine wpList_append_grew _ rfl _ _ _ _ rfl w.heap.size 193 i0 _ 2 24 Tryz.underlying187 H10.out.2.2.1 H10.out.2.2.2.1 H10.out.2.2.2.2.1 H10.out.2.2.2.2.2 rfl _ acc.length (kidCells acc) rfl (ownsRow_below H10.out.1.own ((Below.refl _ _).alloc (Nat.le_refl _) _)) _ 1 (KidM.mk (b :: r) (placeM tv l.length)).cells rfl (Src.laid _ Tryz.underlying187 (KidM.mk (b :: r) (placeM tv l.length)).cells 1 rfl (by simp [KidM.cells, Value.oneCell']) (0, 0) (by simp)) ?c3 ?c4 ?c5 ?_)
                case c3 => exact Nat.le_trans (show acc.length + 1 ≤ 5000 by omega) (by decide)
                case c4 => omega
                case c5 => simp; omega
                intro v1 W1 hl1 hg1
                have hg1 : Grew W10 W1 _ v1 := Grew.under ((Below.refl _ _).alloc (Nat.le_refl _) _) hg1
                obtain ⟨vp, vc, hv1⟩ := ownsRow_form hl1
                subst hv1
                have x8' : W1.cell? ⟨X, 8, none⟩ = some (.slice kp acc.length kc) := hg1.cell x8 H10.out.1.kX
                have xf' : W1.frozen? ⟨X, 8, none⟩ = false := frozen_of_row W1 X 8 _ _ ((hg1.block H10.out.1.row.lt H10.out.1.kX).trans H10.out.1.row)
                have H11 := hid (H10.out.1.more ⟨b :: r, placeM tv l.length⟩ hg1 (by unfold KB; rw [kidCells_snoc, List.length_append]; exact hl1))
                clear hl1 hg1 x8 xf
                go_wp2
                go_roundw
                case rel =>
                  refine ⟨j + 1, acc ++ [KidM.mk (b :: r) (placeM tv l.length)], A.setIfInBounds b.toNat (.bool true), s7, .slice vp (acc.length + 1) vc, by omega, by go_num, by simp; omega, ?_, ?_, ?_⟩
                  · exact H11.out
                  · exact Hre.out.1.mark b _ rfl
                  · show restM l m s5 [] = _
                    rw [Hst.out, if_neg (by simp), if_neg (by have := Hfb.out; simpa using this.symm)]
                case measure => simp [intOf]; omega
          · have hltz : decide ((j : Int) < (m : Int)) = false := by simp; omega
            obtain rfl : j = m := by omega
            have hend : restM l j s5 [] = if s.bad then none else some acc := by rw [Hre.out.2, Nat.sub_self]; rfl
            have hs := Hk.out.says
            obtain ⟨kp, kc, hkv⟩ := Hk.out.form
            subst hkv
            have c0 := hs.cell 0
            have c1 := hs.cell 1
            have c2 := hs.cell 2
            have c3 := hs.cell 3
            have c4 := hs.cell 4
            have c5 := hs.cell 5
            have c6 := hs.cell 6
            have c7 := hs.cell 7
            have c8 := hs.cell 8
            have het := says_et hs H0.out.2.1 H0.out.2.2.1
            simp only [nodeCells, List.getElem?_toArray, List.getElem?_cons_zero, List.getElem?_cons_succ] at c0 c1 c2 c3 c4 c5 c6 c7 c8
            have herr := cur_err_z c wr.drew l _ false _ (CurAt.heap hs.cur rfl) ((het.heap rfl).mono (fun h => H0.out.2.2.2 (by rw [readM_rest H2.out.2 (by have h1 := Hlf.out.2; have h2 := Hbig.out; omega) Hx.out j s5 H5.out.2, hend, if_pos h]; rfl)))
            obtain ⟨B, hB⟩ : ∃ B, B = s.bad := ⟨_, rfl⟩
            rw [← hB] at herr hend
            obtain ⟨E, hE⟩ : ∃ E : Int, E = if B = true then 3 else 0 := ⟨_, rfl⟩
            rw [← hE] at herr
            have hE0 : (E == 0) = !B := by rw [hE]; cases B <;> rfl
            clear hE
            have HB := hid hB
            clear hB
            have Herr := hid herr
            clear herr
            have Hs := hid (And.intro hs (And.intro het hend))
            clear hs het hend
            obtain ⟨P, hP⟩ : ∃ P, P = decide (0 < n') := ⟨_, rfl⟩
            rw [← hP] at Hs Hk c7
            have HP := hid hP
            clear hP
            go_wp2_with fail
            go_region_with (first | (go_at_call 121; (with_reducible refine Herr.out.mono ?_); rintro e w4 ⟨rfl, hb⟩; have hs4 := (Hs.out.1.heap (W' := wr.drew) rfl rfl rfl rfl).below hb; have k0 : w4.cell? ⟨X, 0, none⟩ = _ := hs4.cell 0; have k1 : w4.cell? ⟨X, 1, none⟩ = _ := hs4.cell 1; have k2 : w4.cell? ⟨X, 2, none⟩ = _ := hs4.cell 2; have k3 : w4.cell? ⟨X, 3, none⟩ = _ := hs4.cell 3; have k4 : w4.cell? ⟨X, 4, none⟩ = _ := hs4.cell 4; have k5 : w4.cell? ⟨X, 5, none⟩ = _ := hs4.cell 5; have k6 : w4.cell? ⟨X, 6, none⟩ = _ := hs4.cell 6; have k7 : w4.cell? ⟨X, 7, none⟩ = _ := hs4.cell 7; have k8 : w4.cell? ⟨X, 8, none⟩ = _ := hs4.cell 8; have kz := hs4.own; simp only [nodeCells, List.getElem?_toArray, List.getElem?_cons_zero, List.getElem?_cons_succ] at k0 k1 k2 k3 k4 k5 k6 k7 k8; have H9 := hid (And.intro hs4 (And.intro ((Hk.out.heap (W' := wr.drew) rfl rfl rfl rfl).below hb) hb)); clear hs4 hb))
            all_goals
              go_wp2_with fail
              refine bodyPost_ret (v := .tuple #[.agg (nodeCells x P (.slice kp acc.length kc)), .bool (!B)]) (by simp [results, Tryz.results109, go_sem, nodeCells, k0, k1, k2, k3, k4, k5, k6, k7, k8]) rfl ?_
              have h9 := H9.out.2.1.again
              refine ⟨_, !B, rfl, ⟨_, h9.cur, fun hb => by rw [← HB.out]; simpa using hb⟩, h9.grown, x, P, _, rfl, ⟨_, _, _, rfl⟩, ?_⟩
              rw [readM_rest H2.out.2 (by have h1 := Hlf.out.2; have h2 := Hbig.out; omega) Hx.out j s5 H5.out.2, Hs.out.2.2]
              cases B with
              | true => rfl
              | false => exact ⟨rfl, rfl, HP.out, h9.own⟩
end Go.Proofs.YthhjdkcnkdffcaaGreat.Eb
