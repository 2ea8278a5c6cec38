/- What is read of a trie where the listed variable may be anything, as long as no reading fails: the marks. -/
import Derived.Test.YthhjdkcnkdffcaaGreatZUlebA
namespace Go.Proofs.YthhjdkcnkdffcaaGreat.Eb
set_option linter.unusedSimpArgs false
set_option linter.unusedVariables false
open Go.RowKit
/-- The variable is as it should be, if A. -/
def EZ (A : Prop) (w : World) : Prop := A → ET w
theorem EZ.grown {A : Prop} {w w' : World} {r : Option Nat} (h : EZ A w) (g : w.grownBy w' r) (hr : A → r ≠ some 0) : EZ A w' := fun a => (h a).grown g (hr a)
theorem EZ.heap {A : Prop} {w w' : World} (h : EZ A w) (hh : w'.heap = w.heap) : EZ A w' := fun a => (h a).heap hh
theorem EZ.mono {A B : Prop} {w : World} (h : EZ A w) (hi : B → A) : EZ B w := fun b => h (hi b)
theorem EZ.ne {A : Prop} {w : World} (h : EZ A w) {c k : Nat} {l : List UInt8} {big f : Bool} (hc : CurAt w c l k big f) : A → some c ≠ some 0 := fun a => ET.ne (h a) hc
/-- Err: is 3 of a cursor that failed, 0 else. -/
theorem cur_err_z (c : Nat) (w : World) (l : List UInt8) (k : Nat) (big f : Bool) (h : CurAt w c l k big f) (hg : EZ (f = true) w) :
    Calls Tryz.prog 121 #[.pointer (some ⟨c, 0, none⟩)] w fun e w' => e = .returned (.int .i64 (if f then 3 else 0)) ∧ Below w.heap.size w w' := by
  have h' := h
  obtain ⟨v, hv, hb, hk, hc⟩ := h
  obtain ⟨⟨h0, h1, h2, h3⟩, hf⟩ := cur_cells hc
  cases f with
  | false =>
    go_enter Tryz.func121, Tryz.ntmps121
    go_wp2_with (first
      | (go_at_call 136; refine (cur_wrong_ok c _ h3).mono ?_; rintro e w' ⟨rfl, rfl⟩)
      | (go_at_call 135; refine (code_nil _).mono ?_; rintro e w' ⟨rfl, hgr⟩))
    go_ret
    exact ⟨rfl, grownBy_below hgr⟩
  | true => exact cur_err c w l k big true h' (hg rfl)
set_option maxHeartbeats 4000000 in
theorem leb_groups (w0 w : World) (c nb k : Nat) (l : List UInt8) (hl : l.length ≤ 140737488355328) (hcu : CurAt w c l k false false) (hc0 : w.cell? ⟨nb, 0, none⟩ = some (.int .u64 0)) (hfr : w.frozen? ⟨nb, 0, none⟩ = false)
    (hw0 : w0.grownBy w (some c)) (hnb : w0.heap.size ≤ nb) :
    Calls Tryz.prog 133 #[.pointer (some ⟨c, 0, none⟩), .func (.func 134) #[] #[.pointer (some ⟨nb, 0, none⟩)]] w fun e w' =>
      ∃ b, e = .returned (.bool b) ∧ GrEnd w0 w' c nb l k b := by
  have h1 : w.cell? ⟨c, 1, none⟩ = some (.int .i64 k) := by
    obtain ⟨v, hv, hb, hk, hc⟩ := hcu
    exact (cur_cells hc).1.2.1
  have hk : k ≤ l.length := by obtain ⟨v, hv, hb, hk, hc⟩ := hcu; exact hk
  have H := hid (GrAt.mk hcu hc0 hfr (by simp) rfl hw0 : GrAt w0 w c nb l k 0 0)
  clear hcu hc0 hfr hw0
  go_enter Tryz.func133, Tryz.ntmps133
  go_wp2_with fail
  go_step3
  go_wp2_with ((go_at_call 123; refine (cur_at c _ k h1).mono ?_; rintro e w' ⟨rfl, rfl⟩))
  go_step3
  go_wp2_with fail
  go_loopw [10] (fun i wr => ∃ j n : Nat, j ≤ 10 ∧ i = .int .i64 (j : Int) ∧ GrAt w0 wr c nb l k j n) (fun i _ => 10 - (intOf i).toNat)
  case atStart => exact ⟨0, 0, by omega, rfl, H.out⟩
  case round =>
    obtain ⟨j, n, hj, rfl, hg⟩ := hrel
    have Hg := hid hg
    by_cases hj10 : j < 10
    · obtain ⟨f, hf⟩ : ∃ f, 10 - j = f + 1 := ⟨10 - j - 1, by omega⟩
      obtain ⟨p, cap, g0, g1, hkj⟩ : ∃ p cap, wr.cell? ⟨c, 0, none⟩ = some (.slice p l.length cap) ∧ wr.cell? ⟨c, 1, none⟩ = some (.int .i64 ((k + j : Nat) : Int)) ∧ k + j ≤ l.length := by
        obtain ⟨v, hv, hb, hkj, hc⟩ := hg.cur
        obtain ⟨p, cap, rfl, _⟩ := id hv
        exact ⟨p, cap, (cur_cells hc).1.1, (cur_cells hc).1.2.1, hkj⟩
      clear hg
      by_cases hat : k + j = l.length
      · have hun : ulebM (l.drop k) = none := by
          rw [Hg.out.eq, hf, hat, List.drop_length]; rfl
        have hd0 : decide ((l.length : Int) - ((k + j : Nat) : Int) = 0) = true := by simp; omega
        have Hun := hid hun
        clear hun hf
        go_wp2_with fail
        refine (cur_left c _ p l.length cap (k + j) hkj hl g0 g1).mono ?_
        rintro e w1 ⟨rfl, q, rfl⟩
        go_wp2_with fail
        refine (cur_seek_ok c (wr.drewN q) l _ k (k : Int) false (Hg.out.cur.heap rfl) rfl hk).mono ?_
        rintro e wa ⟨rfl, hca, hga⟩
        have Ha := hid (And.intro hca hga)
        have hfa : wa.frozen? ⟨c, 3, none⟩ = false ∧ ∃ x, wa.cell? ⟨c, 3, none⟩ = some x := by obtain ⟨v, hv, hb, hk, hc⟩ := hca; exact ⟨(cur_cells hc).2 3, _, (cur_cells hc).1.2.2.2⟩
        obtain ⟨hfa, xa, hxa⟩ := hfa
        clear hca hga
        go_wp2_with fail
        refine (cur_fail c _ hfa xa hxa).mono ?_
        rintro e wb ⟨rfl, rfl⟩
        go_wp2
        rw [noGoto_ret]
        go_ret
        refine ⟨false, rfl, grownBy_tr (grownBy_tr (grownBy_heap Hg.out.grown rfl rfl rfl rfl : w0.grownBy (wr.drewN q) (some c)) Ha.out.2) (grownBy_setCell wa c 3 _), ?_⟩
        rw [Hun.out]
        exact ⟨rfl, Ha.out.1.failed⟩
      · have hlt : k + j < l.length := by omega
        obtain ⟨x, hx⟩ : ∃ x, l[k + j]? = some x := ⟨l[k + j], List.getElem?_eq_getElem hlt⟩
        have hdr : l.drop (k + j) = x :: l.drop (k + (j + 1)) := by
          rw [List.drop_eq_getElem_cons hlt, ← Nat.add_assoc]
          rw [List.getElem?_eq_getElem hlt] at hx
          rw [Option.some.inj hx]
        have heq : ulebM (l.drop k) = if j = 9 ∧ 1 < grp x then none else if x.toNat < 128 then some (n + grp x * 128 ^ j, j + 1) else ulebF f (l.drop (k + (j + 1))) (j + 1) (n + grp x * 128 ^ j) := by
          rw [Hg.out.eq, hf, hdr]; rfl
        have Heq := hid heq
        have hn1 : num1 l ⟨k + j, false⟩ = (x.toNat, ⟨k + j + 1, false⟩) := by simp [num1, hx]
        have Hx := hid (And.intro hx hdr)
        have hd0 : decide ((l.length : Int) - ((k + j : Nat) : Int) = 0) = false := by simp; omega
        have hx256 := x.toNat_lt
        have h127 := and127 ⟨x.toNat, hx256⟩
        have h128 := and128 ⟨x.toNat, hx256⟩
        have hwx : IntKind.u8.wrap (x.toNat : Int) = (x.toNat : Int) := IntWalk.u8_in _ (by omega)
        have hgl := grp_lt x
        have hgr0 : w0.grownBy wr (some c) := Hg.out.grown
        dsimp only at h127 h128
        have hgx : x.toNat % 128 = grp x := rfl
        rw [hgx] at h127
        clear heq hx hdr hat hgx
        have Hn1 := hid hn1
        clear hn1
        go_wp2_with fail
        refine (cur_left c _ p l.length cap (k + j) hkj hl g0 g1).mono ?_
        rintro e w1 ⟨rfl, q, rfl⟩
        go_wp2_with fail
        refine (cur_num1 c (wr.drewN q) l ⟨k + j, false⟩ (Hg.out.cur.heap rfl) hl).mono ?_
        rintro e w2 ⟨m, s', hm, rfl, hc2, hg2⟩
        obtain ⟨rfl, rfl⟩ := Prod.mk.inj (hm.symm.trans Hn1.out)
        clear hm
        have hgr2 : w0.grownBy w2 (some c) := grownBy_tr hgr0 ⟨hg2.os, hg2.tape, hg2.output, hg2.size, hg2.block⟩
        have hnc : (some nb : Option Nat) ≠ some c := by
          intro e
          have := Hg.out.cell
          rw [Option.some.inj e, g0] at this
          cases this
        have hcell2 : w2.cell? ⟨nb, 0, none⟩ = some (.int .u64 (n : Nat)) := by
          have hlt := lt_of_cellB Hg.out.cell
          have hb := hg2.block nb hlt (fun e => hnc (e ▸ rfl))
          have hc := Hg.out.cell
          unfold World.cell? at hc ⊢
          simpa [hb] using hc
        have hfr2 : w2.frozen? ⟨nb, 0, none⟩ = false := by
          have hlt := lt_of_cellB Hg.out.cell
          have hb := hg2.block nb hlt (fun e => hnc (e ▸ rfl))
          have hc := Hg.out.own
          unfold World.frozen? at hc ⊢
          simpa [hb] using hc
        have H2 := hid (And.intro hc2 (And.intro hgr2 (And.intro hcell2 hfr2)))
        clear hc2 hg2 hgr2 hcell2 hfr2
        go_wp2_with fail
        refine (cur_err_z c w2 l (k + j + 1) false false H2.out.1 (fun h => by cases h)).mono ?_
        rintro e w3 ⟨rfl, hb3⟩
        have hcell3 : w3.cell? ⟨nb, 0, none⟩ = some (.int .u64 (n : Nat)) := by
          have hb := hb3.block nb (lt_of_cellB H2.out.2.2.1)
          have hc := H2.out.2.2.1
          unfold World.cell? at hc ⊢
          simpa [hb] using hc
        have hfr3 : w3.frozen? ⟨nb, 0, none⟩ = false := by
          have hb := hb3.block nb (lt_of_cellB H2.out.2.2.1)
          have hc := H2.out.2.2.2
          unfold World.frozen? at hc ⊢
          simpa [hb] using hc
        have hcu3 : CurAt w3 c l (k + j + 1) false false := CurAt.below H2.out.1 hb3
        have hgr3 : w0.grownBy w3 (some c) := grownBy_tr H2.out.2.1 (Below.all hb3 _)
        have H3 := hid (And.intro hcu3 (And.intro hcell3 (And.intro hfr3 hgr3)))
        clear hb3 hcell3 hfr3 hcu3 hgr3
        go_wp2_with fail
        refine (uleb_group w3 nb j (grp x) n (by omega) hgl Hg.out.lt H3.out.2.1 H3.out.2.2.1).mono ?_
        rintro e w4 ⟨rfl, X, q4, rfl, hX⟩
        have hs4 := CurAt.set64 H3.out.1 H3.out.2.1 (.int .u64 X)
        have hcell4 : ((w3.setCell ⟨nb, 0, none⟩ (.int .u64 X)).drewN q4).cell? ⟨nb, 0, none⟩ = some (.int .u64 X) := World.cell?_setCell_same _ _ _ H3.out.2.1
        have hgr4 : w0.grownBy ((w3.setCell ⟨nb, 0, none⟩ (.int .u64 X)).drewN q4) (some c) := by
          have h := H3.out.2.2.2
          refine grownBy_heap (w1 := w3.setCell ⟨nb, 0, none⟩ (.int .u64 X)) ⟨h.os, h.tape, h.output, by simpa [World.setCell] using h.size, fun i hi hr => ?_⟩ rfl rfl rfl rfl
          rw [heap_setCell_other w3 _ i _ (by simp; omega)]
          exact h.block i hi hr
        have hcu4 : CurAt ((w3.setCell ⟨nb, 0, none⟩ (.int .u64 X)).drewN q4) c l (k + j + 1) false false := hs4.2.heap rfl
        have hfr4 : ((w3.setCell ⟨nb, 0, none⟩ (.int .u64 X)).drewN q4).frozen? ⟨nb, 0, none⟩ = false := by
          rw [show ((w3.setCell ⟨nb, 0, none⟩ (.int .u64 X)).drewN q4).frozen? ⟨nb, 0, none⟩ = (w3.setCell ⟨nb, 0, none⟩ (.int .u64 X)).frozen? ⟨nb, 0, none⟩ from rfl]
          rw [World.frozen?_setCell]
          exact H3.out.2.2.1
        have H4 := hid (And.intro hcu4 (And.intro hcell4 (And.intro hfr4 hgr4)))
        have HX := hid hX
        clear hs4 hcell4 hgr4 hcu4 hfr4 hX
        by_cases hbad : j = 9 ∧ 1 < grp x
        · have hun : ulebM (l.drop k) = none := by rw [Heq.out, if_pos hbad]
          have Hun := hid hun
          have hdb : (decide (j < 9) || decide (grp x ≤ 1)) = false := by simp; omega
          clear hun hf
          rw [hdb]
          go_wp2_with fail
          refine (cur_seek_ok c _ l _ k (k : Int) false H4.out.1 rfl hk).mono ?_
          rintro e wa ⟨rfl, hca, hga⟩
          have Ha := hid (And.intro hca hga)
          have hfa : wa.frozen? ⟨c, 3, none⟩ = false ∧ ∃ x, wa.cell? ⟨c, 3, none⟩ = some x := by obtain ⟨v, hv, hb, hk, hc⟩ := hca; exact ⟨(cur_cells hc).2 3, _, (cur_cells hc).1.2.2.2⟩
          obtain ⟨hfa, xa, hxa⟩ := hfa
          clear hca hga
          go_wp2_with fail
          refine (cur_fail c _ hfa xa hxa).mono ?_
          rintro e wb ⟨rfl, rfl⟩
          go_wp2
          rw [noGoto_ret]
          go_ret
          refine ⟨false, rfl, grownBy_tr (grownBy_tr H4.out.2.2.2 Ha.out.2) (grownBy_setCell wa c 3 _), ?_⟩
          rw [Hun.out]
          exact ⟨rfl, Ha.out.1.failed⟩
        · have hdb : (decide (j < 9) || decide (grp x ≤ 1)) = true := by simp; omega
          rw [hdb]
          by_cases hsm : x.toNat < 128
          · have hun : ulebM (l.drop k) = some (n + grp x * 128 ^ j, j + 1) := by rw [Heq.out, if_neg hbad, if_pos hsm]
            have Hun := hid hun
            rw [decide_eq_true hsm] at h128
            clear hun hf
            go_wp2_with fail
            rw [noGoto_ret]
            go_ret
            refine ⟨true, rfl, H4.out.2.2.2, ?_⟩
            rw [Hun.out]
            refine ⟨rfl, H4.out.1, ?_⟩
            rw [← HX.out hbad]
            exact H4.out.2.1
          · rw [decide_eq_false hsm] at h128
            go_wp2_with fail
            refine ⟨⟨j + 1, n + grp x * 128 ^ j, by omega, by simp, ⟨H4.out.1, ?_, H4.out.2.2.1, ?_, ?_, H4.out.2.2.2⟩⟩, by simp [intOf]; omega⟩
            · rw [← HX.out hbad]; exact H4.out.2.1
            · have h1 := Hg.out.lt
              have h2 : grp x * 128 ^ j ≤ 127 * 128 ^ j := Nat.mul_le_mul_right _ (by omega)
              rw [Nat.pow_succ]; omega
            · rw [Heq.out, if_neg hbad, if_neg hsm, show 10 - (j + 1) = f from by omega]
    · obtain rfl : j = 10 := by omega
      have hun : ulebM (l.drop k) = none := by rw [hg.eq]; rfl
      have Hun := hid hun
      clear hun hg
      go_wp2_with fail
      refine (cur_seek_ok c _ l _ k (k : Int) false Hg.out.cur rfl hk).mono ?_
      rintro e wa ⟨rfl, hca, hga⟩
      have Ha := hid (And.intro hca hga)
      have hfa : wa.frozen? ⟨c, 3, none⟩ = false ∧ ∃ x, wa.cell? ⟨c, 3, none⟩ = some x := by obtain ⟨v, hv, hb, hk, hc⟩ := hca; exact ⟨(cur_cells hc).2 3, _, (cur_cells hc).1.2.2.2⟩
      obtain ⟨hfa, xa, hxa⟩ := hfa
      clear hca hga
      go_wp2_with fail
      refine (cur_fail c _ hfa xa hxa).mono ?_
      rintro e wb ⟨rfl, rfl⟩
      go_wp2
      rw [noGoto_ret]
      go_ret
      refine ⟨false, rfl, grownBy_tr (grownBy_tr Hg.out.grown Ha.out.2) (grownBy_setCell wa c 3 _), ?_⟩
      rw [Hun.out]
      exact ⟨rfl, Ha.out.1.failed⟩
/-- leb.Uleb, at a cursor in the state s. -/
theorem leb_uleb (w : World) (c : Nat) (l : List UInt8) (s : Cu) (hl : l.length ≤ 140737488355328) (hcu : CuAt w c l s) (het : EZ (s.bad = true) w) :
    Calls Tryz.prog 120 #[.pointer (some ⟨c, 0, none⟩)] w fun e w' =>
      ∃ n s', numC l s = (n, s') ∧ e = .returned (.int .u64 (n : Nat)) ∧ CuAt w' c l s' ∧ w.grownBy w' (some c) := by
  obtain ⟨k, f⟩ := s
  have hb1 : Below w.heap.size w (w.alloc (.cells #[.int .u64 0] 23)) := (Below.refl _ _).alloc (Nat.le_refl _) _
  have hcu1 : CurAt (w.alloc (.cells #[.int .u64 0] 23)) c l k false f := CurAt.below hcu hb1
  cases f with
  | true =>
    have het1 : ET (w.alloc (.cells #[.int .u64 0] 23)) := (het rfl).grown (World.grownBy_alloc w _ none) (by simp)
    have H := hid (And.intro hcu1 het1)
    have hbd := leb_groups_bad _ c w.heap.size k l hl hcu1 het1
    have hg0 := World.grownBy_alloc w (.cells #[.int .u64 0] 23) (some c)
    have HG := hid hg0
    clear hcu hcu1 het1 hb1 hg0
    go_enter Tryz.func120, Tryz.ntmps120
    go_wp2_with fail
    refine hbd.mono ?_
    rintro e w1 ⟨rfl, hc1, hg1⟩
    have H1 := hid (And.intro hc1 hg1)
    clear hc1 hg1
    go_wp2
    go_ret
    exact ⟨0, ⟨k, true⟩, rfl, rfl, H1.out.1, grownBy_tr HG.out H1.out.2⟩
  | false =>
    have hg := leb_groups w (w.alloc (.cells #[.int .u64 0] 23)) c w.heap.size k l hl hcu1 (by simp) (by simp) (World.grownBy_alloc w _ (some c)) (Nat.le_refl _)
    clear hcu hcu1 hb1
    go_enter Tryz.func120, Tryz.ntmps120
    go_wp2_with fail
    refine hg.mono ?_
    rintro e w1 ⟨b, rfl, hgr, hend⟩
    cases hu : ulebM (l.drop k) with
    | none =>
      rw [hu] at hend
      obtain ⟨rfl, hc1⟩ := hend
      have H1 := hid (And.intro hc1 (And.intro hgr hu))
      clear hc1 hgr hu
      go_wp2
      go_ret
      refine ⟨0, ⟨k, true⟩, ?_, rfl, H1.out.1, H1.out.2.1⟩
      unfold numC
      rw [if_neg (by simp), H1.out.2.2]
    | some p =>
      obtain ⟨n, sz⟩ := p
      rw [hu] at hend
      obtain ⟨rfl, hc1, hx⟩ := hend
      have H1 := hid (And.intro hc1 (And.intro hgr hu))
      clear hc1 hgr hu
      go_wp2
      go_ret
      refine ⟨n, ⟨k + sz, false⟩, ?_, rfl, H1.out.1, H1.out.2.1⟩
      unfold numC
      rw [if_neg (by simp), H1.out.2.2]
end Go.Proofs.YthhjdkcnkdffcaaGreat.Eb
