/- Package leb: numbers of groups. -/
import Derived.Test.YtipgcdpmkpjokaaDoorUlebA
import Derived.Test.YtipgcdpmkpjokaaDoorLebM
import Derived.WalkMore
namespace Go.Proofs.YtipgcdpmkpjokaaDoor
set_option linter.unusedSimpArgs false
set_option linter.unusedVariables false
open Go.RowKit

theorem noGoto_ret (Q : Exit → Act → World → Prop) (a : Act) (w : World) : Exit.noGoto Q Exit.ret a w = Q Exit.ret a w := rfl

theorem and127 : ∀ x : Fin 256, bits BinOp.and IntKind.u8 (x.val : Int) 127 = ((x.val % 128 : Nat) : Int) := by decide +kernel
theorem and128 : ∀ x : Fin 256, (bits BinOp.and IntKind.u8 (x.val : Int) 128 == 0) = decide (x.val < 128) := by decide +kernel

theorem BS.setOther {w : World} {v : Value} {l : List UInt8} (h : BS w v l) {a : Addr} {n : Int} (ha : w.cell? a = some (.int .u64 n)) (u : Value) : BS (w.setCell a u) v l := by
  obtain ⟨p, cap, rfl, g1, g2, g3⟩ := h
  refine ⟨p, cap, rfl, g1, g2, fun hne => ?_⟩
  obtain ⟨b, off, rfl, hc⟩ := g3 hne
  refine ⟨b, off, rfl, fun i x hx => ?_⟩
  have h1 := hc i x hx
  rw [World.cell?_setCell_other _ _ _ _ (fun e => by rw [e] at ha; rw [h1] at ha; cases ha)]
  exact h1

theorem CurAt.set64 {w : World} {c k nb : Nat} {l : List UInt8} {big f : Bool} (h : CurAt w c l k big f) {n : Int} (ha : w.cell? ⟨nb, 0, none⟩ = some (.int .u64 n)) (u : Value) : nb ≠ c ∧ CurAt (w.setCell ⟨nb, 0, none⟩ u) c l k big f := by
  obtain ⟨v, hv, hb, hk, hc⟩ := h
  have hne : nb ≠ c := by
    rintro rfl
    obtain ⟨p, cap, rfl, _⟩ := id hv
    have := (cur_cells hc).1.1
    rw [ha] at this; cases this
  exact ⟨hne, v, hv.setOther ha u, hb, hk, by rw [heap_setCell_other w _ c u (by simpa using Ne.symm hne)]; exact hc⟩

/-- What stands when i groups are read, their number n. -/
structure GrAt (w0 wr : World) (c nb : Nat) (l : List UInt8) (k i n : Nat) : Prop where
  cur : CurAt wr c l (k + i) false false
  cell : wr.cell? ⟨nb, 0, none⟩ = some (.int .u64 (n : Nat))
  own : wr.frozen? ⟨nb, 0, none⟩ = false
  lt : n < 128 ^ i
  eq : ulebM (l.drop k) = ulebF (10 - i) (l.drop (k + i)) i n
  grown : w0.grownBy wr (some c)

/-- What a call of groups brings about. -/
def GrEnd (w0 w' : World) (c nb : Nat) (l : List UInt8) (k : Nat) (b : Bool) : Prop :=
  w0.grownBy w' (some c) ∧
  match ulebM (l.drop k) with
  | some (n, sz) => b = true ∧ CurAt w' c l (k + sz) false false ∧ w'.cell? ⟨nb, 0, none⟩ = some (.int .u64 (n : Nat))
  | none => b = false ∧ CurAt w' c l k false true

set_option maxHeartbeats 4000000 in
theorem leb_groups (w0 w : World) (c nb k : Nat) (l : List UInt8) (hl : l.length ≤ 140737488355328) (hcu : CurAt w c l k false false) (hc0 : w.cell? ⟨nb, 0, none⟩ = some (.int .u64 0)) (hfr : w.frozen? ⟨nb, 0, none⟩ = false)
    (hw0 : w0.grownBy w (some c)) (hnb : w0.heap.size ≤ nb) (het : ET w0) (hcg : some c ≠ some 1) :
    Calls Tryd.prog 55 #[.pointer (some ⟨c, 0, none⟩), .func (.func 56) #[] #[.pointer (some ⟨nb, 0, none⟩)]] w fun e w' =>
      ∃ b, e = .returned (.bool b) ∧ GrEnd w0 w' c nb l k b := by
  have h1 : w.cell? ⟨c, 1, none⟩ = some (.int .i64 k) := by
    obtain ⟨v, hv, hb, hk, hc⟩ := hcu
    exact (cur_cells hc).1.2.1
  have hk : k ≤ l.length := by obtain ⟨v, hv, hb, hk, hc⟩ := hcu; exact hk
  have H := hid (GrAt.mk hcu hc0 hfr (by simp) rfl hw0 : GrAt w0 w c nb l k 0 0)
  clear hcu hc0 hfr hw0
  go_enter Tryd.func55, Tryd.ntmps55
  go_wp2_with fail
  go_step3
  go_wp2_with ((go_at_call 41; refine (cur_at c _ k h1).mono ?_; rintro e w' ⟨rfl, rfl⟩))
  go_step3
  go_wp2_with fail
  go_loopw [10] (fun i wr => ∃ j n : Nat, j ≤ 10 ∧ i = .int .i64 (j : Int) ∧ GrAt w0 wr c nb l k j n) (fun i _ => 10 - (intOf i).toNat)
  case atStart => exact ⟨0, 0, by omega, rfl, H.out⟩
  case round =>
    obtain ⟨j, n, hj, rfl, hg⟩ := hrel
    have Hg := hid hg
    by_cases hj10 : j < 10
    · obtain ⟨f, hf⟩ : ∃ f, 10 - j = f + 1 := ⟨10 - j - 1, by omega⟩
      obtain ⟨p, cap, g0, g1, hkj⟩ : ∃ p cap, wr.cell? ⟨c, 0, none⟩ = some (.slice p l.length cap) ∧ wr.cell? ⟨c, 1, none⟩ = some (.int .i64 ((k + j : Nat) : Int)) ∧ k + j ≤ l.length := by
        obtain ⟨v, hv, hb, hkj, hc⟩ := hg.cur
        obtain ⟨p, cap, rfl, _⟩ := id hv
        exact ⟨p, cap, (cur_cells hc).1.1, (cur_cells hc).1.2.1, hkj⟩
      clear hg
      by_cases hat : k + j = l.length
      · have hun : ulebM (l.drop k) = none := by
          rw [Hg.out.eq, hf, hat, List.drop_length]; rfl
        have hd0 : decide ((l.length : Int) - ((k + j : Nat) : Int) = 0) = true := by simp; omega
        have Hun := hid hun
        clear hun hf
        go_wp2_with fail
        refine (cur_left c _ p l.length cap (k + j) hkj hl g0 g1).mono ?_
        rintro e w1 ⟨rfl, q, rfl⟩
        go_wp2_with fail
        refine (cur_seek_ok c (wr.drewN q) l _ k (k : Int) false (Hg.out.cur.heap rfl) rfl hk).mono ?_
        rintro e wa ⟨rfl, hca, hga⟩
        have Ha := hid (And.intro hca hga)
        have hfa : wa.frozen? ⟨c, 3, none⟩ = false ∧ ∃ x, wa.cell? ⟨c, 3, none⟩ = some x := by obtain ⟨v, hv, hb, hk, hc⟩ := hca; exact ⟨(cur_cells hc).2 3, _, (cur_cells hc).1.2.2.2⟩
        obtain ⟨hfa, xa, hxa⟩ := hfa
        clear hca hga
        go_wp2_with fail
        refine (cur_fail c _ hfa xa hxa).mono ?_
        rintro e wb ⟨rfl, rfl⟩
        go_wp2
        rw [noGoto_ret]
        go_ret
        refine ⟨false, rfl, grownBy_tr (grownBy_tr (grownBy_heap Hg.out.grown rfl rfl rfl rfl : w0.grownBy (wr.drewN q) (some c)) Ha.out.2) (grownBy_setCell wa c 3 _), ?_⟩
        rw [Hun.out]
        exact ⟨rfl, Ha.out.1.failed⟩
      · have hlt : k + j < l.length := by omega
        obtain ⟨x, hx⟩ : ∃ x, l[k + j]? = some x := ⟨l[k + j], List.getElem?_eq_getElem hlt⟩
        have hdr : l.drop (k + j) = x :: l.drop (k + (j + 1)) := by
          rw [List.drop_eq_getElem_cons hlt, ← Nat.add_assoc]
          rw [List.getElem?_eq_getElem hlt] at hx
          rw [Option.some.inj hx]
        have heq : ulebM (l.drop k) = if j = 9 ∧ 1 < grp x then none else if x.toNat < 128 then some (n + grp x * 128 ^ j, j + 1) else ulebF f (l.drop (k + (j + 1))) (j + 1) (n + grp x * 128 ^ j) := by
          rw [Hg.out.eq, hf, hdr]; rfl
        have Heq := hid heq
        have hn1 : num1 l ⟨k + j, false⟩ = (x.toNat, ⟨k + j + 1, false⟩) := by simp [num1, hx]
        have Hx := hid (And.intro hx hdr)
        have hd0 : decide ((l.length : Int) - ((k + j : Nat) : Int) = 0) = false := by simp; omega
        have hx256 := x.toNat_lt
        have h127 := and127 ⟨x.toNat, hx256⟩
        have h128 := and128 ⟨x.toNat, hx256⟩
        have hwx : IntKind.u8.wrap (x.toNat : Int) = (x.toNat : Int) := IntWalk.u8_in _ (by omega)
        have hgl := grp_lt x
        have hgr0 : w0.grownBy wr (some c) := Hg.out.grown
        dsimp only at h127 h128
        have hgx : x.toNat % 128 = grp x := rfl
        rw [hgx] at h127
        clear heq hx hdr hat hgx
        have Hn1 := hid hn1
        clear hn1
        go_wp2_with fail
        refine (cur_left c _ p l.length cap (k + j) hkj hl g0 g1).mono ?_
        rintro e w1 ⟨rfl, q, rfl⟩
        go_wp2_with fail
        refine (cur_num1 c (wr.drewN q) l ⟨k + j, false⟩ (Hg.out.cur.heap rfl) hl).mono ?_
        rintro e w2 ⟨m, s', hm, rfl, hc2, hg2⟩
        obtain ⟨rfl, rfl⟩ := Prod.mk.inj (hm.symm.trans Hn1.out)
        clear hm
        have hgr2 : w0.grownBy w2 (some c) := grownBy_tr hgr0 ⟨hg2.os, hg2.tape, hg2.output, hg2.size, hg2.block⟩
        have hnc : (some nb : Option Nat) ≠ some c := by
          intro e
          have := Hg.out.cell
          rw [Option.some.inj e, g0] at this
          cases this
        have hcell2 : w2.cell? ⟨nb, 0, none⟩ = some (.int .u64 (n : Nat)) := by
          have hlt := lt_of_cell Hg.out.cell
          have hb := hg2.block nb hlt (fun e => hnc (e ▸ rfl))
          have hc := Hg.out.cell
          unfold World.cell? at hc ⊢
          simpa [hb] using hc
        have hfr2 : w2.frozen? ⟨nb, 0, none⟩ = false := by
          have hlt := lt_of_cell Hg.out.cell
          have hb := hg2.block nb hlt (fun e => hnc (e ▸ rfl))
          have hc := Hg.out.own
          unfold World.frozen? at hc ⊢
          simpa [hb] using hc
        have het2 : ET w2 := het.grown hgr2 hcg
        have H2 := hid (And.intro hc2 (And.intro hgr2 (And.intro hcell2 (And.intro hfr2 het2))))
        clear hc2 hg2 hgr2 hcell2 hfr2 het2
        go_wp2_with fail
        refine (cur_err c w2 l (k + j + 1) false false H2.out.1 H2.out.2.2.2.2).mono ?_
        rintro e w3 ⟨rfl, hb3⟩
        have hcell3 : w3.cell? ⟨nb, 0, none⟩ = some (.int .u64 (n : Nat)) := by
          have hb := hb3.block nb (lt_of_cell H2.out.2.2.1)
          have hc := H2.out.2.2.1
          unfold World.cell? at hc ⊢
          simpa [hb] using hc
        have hfr3 : w3.frozen? ⟨nb, 0, none⟩ = false := by
          have hb := hb3.block nb (lt_of_cell H2.out.2.2.1)
          have hc := H2.out.2.2.2.1
          unfold World.frozen? at hc ⊢
          simpa [hb] using hc
        have hcu3 : CurAt w3 c l (k + j + 1) false false := CurAt.below H2.out.1 hb3
        have hgr3 : w0.grownBy w3 (some c) := grownBy_tr H2.out.2.1 (Below.all hb3 _)
        have H3 := hid (And.intro hcu3 (And.intro hcell3 (And.intro hfr3 hgr3)))
        clear hb3 hcell3 hfr3 hcu3 hgr3
        go_wp2_with fail
        refine (uleb_group w3 nb j (grp x) n (by omega) hgl Hg.out.lt H3.out.2.1 H3.out.2.2.1).mono ?_
        rintro e w4 ⟨rfl, X, q4, rfl, hX⟩
        have hs4 := CurAt.set64 H3.out.1 H3.out.2.1 (.int .u64 X)
        have hcell4 : ((w3.setCell ⟨nb, 0, none⟩ (.int .u64 X)).drewN q4).cell? ⟨nb, 0, none⟩ = some (.int .u64 X) := World.cell?_setCell_same _ _ _ H3.out.2.1
        have hgr4 : w0.grownBy ((w3.setCell ⟨nb, 0, none⟩ (.int .u64 X)).drewN q4) (some c) := by
          have h := H3.out.2.2.2
          refine grownBy_heap (w1 := w3.setCell ⟨nb, 0, none⟩ (.int .u64 X)) ⟨h.os, h.tape, h.output, by simpa [World.setCell] using h.size, fun i hi hr => ?_⟩ rfl rfl rfl rfl
          rw [heap_setCell_other w3 _ i _ (by simp; omega)]
          exact h.block i hi hr
        have hcu4 : CurAt ((w3.setCell ⟨nb, 0, none⟩ (.int .u64 X)).drewN q4) c l (k + j + 1) false false := hs4.2.heap rfl
        have hfr4 : ((w3.setCell ⟨nb, 0, none⟩ (.int .u64 X)).drewN q4).frozen? ⟨nb, 0, none⟩ = false := by
          rw [show ((w3.setCell ⟨nb, 0, none⟩ (.int .u64 X)).drewN q4).frozen? ⟨nb, 0, none⟩ = (w3.setCell ⟨nb, 0, none⟩ (.int .u64 X)).frozen? ⟨nb, 0, none⟩ from rfl]
          rw [World.frozen?_setCell]
          exact H3.out.2.2.1
        have H4 := hid (And.intro hcu4 (And.intro hcell4 (And.intro hfr4 hgr4)))
        have HX := hid hX
        clear hs4 hcell4 hgr4 hcu4 hfr4 hX
        by_cases hbad : j = 9 ∧ 1 < grp x
        · have hun : ulebM (l.drop k) = none := by rw [Heq.out, if_pos hbad]
          have Hun := hid hun
          have hdb : (decide (j < 9) || decide (grp x ≤ 1)) = false := by simp; omega
          clear hun hf
          rw [hdb]
          go_wp2_with fail
          refine (cur_seek_ok c _ l _ k (k : Int) false H4.out.1 rfl hk).mono ?_
          rintro e wa ⟨rfl, hca, hga⟩
          have Ha := hid (And.intro hca hga)
          have hfa : wa.frozen? ⟨c, 3, none⟩ = false ∧ ∃ x, wa.cell? ⟨c, 3, none⟩ = some x := by obtain ⟨v, hv, hb, hk, hc⟩ := hca; exact ⟨(cur_cells hc).2 3, _, (cur_cells hc).1.2.2.2⟩
          obtain ⟨hfa, xa, hxa⟩ := hfa
          clear hca hga
          go_wp2_with fail
          refine (cur_fail c _ hfa xa hxa).mono ?_
          rintro e wb ⟨rfl, rfl⟩
          go_wp2
          rw [noGoto_ret]
          go_ret
          refine ⟨false, rfl, grownBy_tr (grownBy_tr H4.out.2.2.2 Ha.out.2) (grownBy_setCell wa c 3 _), ?_⟩
          rw [Hun.out]
          exact ⟨rfl, Ha.out.1.failed⟩
        · have hdb : (decide (j < 9) || decide (grp x ≤ 1)) = true := by simp; omega
          rw [hdb]
          by_cases hsm : x.toNat < 128
          · have hun : ulebM (l.drop k) = some (n + grp x * 128 ^ j, j + 1) := by rw [Heq.out, if_neg hbad, if_pos hsm]
            have Hun := hid hun
            rw [decide_eq_true hsm] at h128
            clear hun hf
            go_wp2_with fail
            rw [noGoto_ret]
            go_ret
            refine ⟨true, rfl, H4.out.2.2.2, ?_⟩
            rw [Hun.out]
            refine ⟨rfl, H4.out.1, ?_⟩
            rw [← HX.out hbad]
            exact H4.out.2.1
          · rw [decide_eq_false hsm] at h128
            go_wp2_with fail
            refine ⟨⟨j + 1, n + grp x * 128 ^ j, by omega, by simp, ⟨H4.out.1, ?_, H4.out.2.2.1, ?_, ?_, H4.out.2.2.2⟩⟩, by simp [intOf]; omega⟩
            · rw [← HX.out hbad]; exact H4.out.2.1
            · have h1 := Hg.out.lt
              have h2 : grp x * 128 ^ j ≤ 127 * 128 ^ j := Nat.mul_le_mul_right _ (by omega)
              rw [Nat.pow_succ]; omega
            · rw [Heq.out, if_neg hbad, if_neg hsm, show 10 - (j + 1) = f from by omega]
    · obtain rfl : j = 10 := by omega
      have hun : ulebM (l.drop k) = none := by rw [hg.eq]; rfl
      have Hun := hid hun
      clear hun hg
      go_wp2_with fail
      refine (cur_seek_ok c _ l _ k (k : Int) false Hg.out.cur rfl hk).mono ?_
      rintro e wa ⟨rfl, hca, hga⟩
      have Ha := hid (And.intro hca hga)
      have hfa : wa.frozen? ⟨c, 3, none⟩ = false ∧ ∃ x, wa.cell? ⟨c, 3, none⟩ = some x := by obtain ⟨v, hv, hb, hk, hc⟩ := hca; exact ⟨(cur_cells hc).2 3, _, (cur_cells hc).1.2.2.2⟩
      obtain ⟨hfa, xa, hxa⟩ := hfa
      clear hca hga
      go_wp2_with fail
      refine (cur_fail c _ hfa xa hxa).mono ?_
      rintro e wb ⟨rfl, rfl⟩
      go_wp2
      rw [noGoto_ret]
      go_ret
      refine ⟨false, rfl, grownBy_tr (grownBy_tr Hg.out.grown Ha.out.2) (grownBy_setCell wa c 3 _), ?_⟩
      rw [Hun.out]
      exact ⟨rfl, Ha.out.1.failed⟩

end Go.Proofs.YtipgcdpmkpjokaaDoor
