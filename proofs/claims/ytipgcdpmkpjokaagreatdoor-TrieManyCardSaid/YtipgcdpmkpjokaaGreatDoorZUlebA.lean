/- Package leb: a group. -/
import Derived.Test.YtipgcdpmkpjokaaGreatDoorZCurB
import Derived.Test.YtipgcdpmkpjokaaGreatDoorZLebM
import Derived.WalkMore
namespace Go.Proofs.YtipgcdpmkpjokaaGreatDoor
set_option linter.unusedSimpArgs false
set_option linter.unusedVariables false
open Go.RowKit

theorem or_shl7 (A x j : Nat) (hj : j ≤ 9) (hA : A < 128 ^ j) (hx : x < 128) (h : ¬ (j = 9 ∧ 1 < x)) :
    bits BinOp.or IntKind.u64 (A : Int) (IntKind.u64.wrap ((x : Int) * 2 ^ (7 * j))) = ((A + x * 128 ^ j : Nat) : Int) := by
  have hp : (128 : Nat) ^ j = 2 ^ (7 * j) := by rw [Nat.pow_mul]
  have hb : x * 2 ^ (7 * j) < 2 ^ 64 := by
    by_cases h9 : j = 9
    · subst h9
      have : x ≤ 1 := by omega
      have h2 : x * 2 ^ (7 * 9) ≤ 1 * 2 ^ (7 * 9) := Nat.mul_le_mul_right _ this
      exact Nat.lt_of_le_of_lt h2 (by rw [Nat.one_mul]; exact Nat.pow_lt_pow_right (by omega) (by omega))
    · have h1 : x * 2 ^ (7 * j) < 2 ^ 7 * 2 ^ (7 * j) := Nat.mul_lt_mul_of_pos_right (by omega) (Nat.two_pow_pos _)
      have h2 : (2 : Nat) ^ 7 * 2 ^ (7 * j) ≤ 2 ^ 64 := by rw [← Nat.pow_add]; exact Nat.pow_le_pow_right (by omega) (by omega)
      omega
  rw [hp] at hA ⊢
  have hA' : A < 2 ^ 64 := Nat.lt_of_lt_of_le hA (Nat.pow_le_pow_right (by omega) (by omega))
  have e2 : (x : Int) * 2 ^ (7 * j) = ((x * 2 ^ (7 * j) : Nat) : Int) := by simp
  have e3 : IntKind.u64.wrap ((x * 2 ^ (7 * j) : Nat) : Int) = ((x * 2 ^ (7 * j) : Nat) : Int) := IntWalk.u64_in _ (by omega)
  rw [e2, e3]
  rw [or_u64 _ _ hA' hb, or_add A x (7 * j) hA]

set_option maxHeartbeats 1000000 in
theorem uleb_group (w : World) (nb i b n : Nat) (hi : i ≤ 9) (hb : b < 128) (hn : n < 128 ^ i) (hx : w.cell? ⟨nb, 0, none⟩ = some (.int .u64 (n : Nat))) (hf : w.frozen? ⟨nb, 0, none⟩ = false) :
    Calls Tryz.prog 77 #[.int .i64 (i : Nat), .int .u8 (b : Nat), .pointer (some ⟨nb, 0, none⟩)] w fun e w' =>
      e = .returned (.bool (decide (i < 9) || decide (b ≤ 1))) ∧ ∃ (x : Int) (q : Nat), w' = (w.setCell ⟨nb, 0, none⟩ (.int .u64 x)).drewN q ∧ (¬ (i = 9 ∧ 1 < b) → x = ((n + b * 128 ^ i : Nat) : Int)) := by
  have hw : IntKind.i64.wrap (7 * (i : Int)) = 7 * (i : Int) := IntWalk.i64_in _ (by omega)
  have hneg : ¬ 7 * (i : Int) < 0 := by omega
  have hb1 : decide ((b : Int) ≤ 1) = decide (b ≤ 1) := decide_eq_decide.2 (by omega)
  by_cases h9 : i < 9
  · have hd : decide ((i : Int) < 9) = true := by simp; omega
    go_enter Tryz.func77, Tryz.ntmps77
    go_wp2_with fail
    go_region
    go_wp2
    go_ret
    exact ⟨by rw [decide_eq_true h9]; rfl, _, 1, rfl, fun h => or_shl7 n b i hi hn hb h⟩
  · obtain rfl : i = 9 := by omega
    go_enter Tryz.func77, Tryz.ntmps77
    go_wp2_with fail
    go_region
    go_wp2
    go_ret
    refine ⟨by rw [decide_eq_false h9, ← hb1]; rfl, _, 1, rfl, fun h => ?_⟩
    have := or_shl7 n b 9 hi hn hb (fun hh => h ⟨trivial, hh.2⟩)
    exact this
end Go.Proofs.YtipgcdpmkpjokaaGreatDoor

namespace Go.Proofs.YtipgcdpmkpjokaaGreatDoor
set_option linter.unusedSimpArgs false
set_option linter.unusedVariables false
open Go.RowKit

theorem noGoto_ret (Q : Exit → Act → World → Prop) (a : Act) (w : World) : Exit.noGoto Q Exit.ret a w = Q Exit.ret a w := rfl

theorem and127 : ∀ x : Fin 256, bits BinOp.and IntKind.u8 (x.val : Int) 127 = ((x.val % 128 : Nat) : Int) := by decide +kernel
theorem and128 : ∀ x : Fin 256, (bits BinOp.and IntKind.u8 (x.val : Int) 128 == 0) = decide (x.val < 128) := by decide +kernel

theorem BS.setOther {w : World} {v : Value} {l : List UInt8} (h : BS w v l) {a : Addr} {n : Int} (ha : w.cell? a = some (.int .u64 n)) (u : Value) : BS (w.setCell a u) v l := by
  obtain ⟨p, cap, rfl, g1, g2, g3⟩ := h
  refine ⟨p, cap, rfl, g1, g2, fun hne => ?_⟩
  obtain ⟨b, off, rfl, hc⟩ := g3 hne
  refine ⟨b, off, rfl, fun i x hx => ?_⟩
  have h1 := hc i x hx
  rw [World.cell?_setCell_other _ _ _ _ (fun e => by rw [e] at ha; rw [h1] at ha; cases ha)]
  exact h1

theorem CurAt.set64 {w : World} {c k nb : Nat} {l : List UInt8} {big f : Bool} (h : CurAt w c l k big f) {n : Int} (ha : w.cell? ⟨nb, 0, none⟩ = some (.int .u64 n)) (u : Value) : nb ≠ c ∧ CurAt (w.setCell ⟨nb, 0, none⟩ u) c l k big f := by
  obtain ⟨v, hv, hb, hk, hc⟩ := h
  have hne : nb ≠ c := by
    rintro rfl
    obtain ⟨p, cap, rfl, _⟩ := id hv
    have := (cur_cells hc).1.1
    rw [ha] at this; cases this
  exact ⟨hne, v, hv.setOther ha u, hb, hk, by rw [heap_setCell_other w _ c u (by simpa using Ne.symm hne)]; exact hc⟩

/-- What stands when i groups are read, their number n. -/
structure GrAt (w0 wr : World) (c nb : Nat) (l : List UInt8) (k i n : Nat) : Prop where
  cur : CurAt wr c l (k + i) false false
  cell : wr.cell? ⟨nb, 0, none⟩ = some (.int .u64 (n : Nat))
  own : wr.frozen? ⟨nb, 0, none⟩ = false
  lt : n < 128 ^ i
  eq : ulebM (l.drop k) = ulebF (10 - i) (l.drop (k + i)) i n
  grown : w0.grownBy wr (some c)

/-- What a call of groups brings about. -/
def GrEnd (w0 w' : World) (c nb : Nat) (l : List UInt8) (k : Nat) (b : Bool) : Prop :=
  w0.grownBy w' (some c) ∧
  match ulebM (l.drop k) with
  | some (n, sz) => b = true ∧ CurAt w' c l (k + sz) false false ∧ w'.cell? ⟨nb, 0, none⟩ = some (.int .u64 (n : Nat))
  | none => b = false ∧ CurAt w' c l k false true

set_option maxHeartbeats 4000000 in
theorem leb_groups (w0 w : World) (c nb k : Nat) (l : List UInt8) (hl : l.length ≤ 140737488355328) (hcu : CurAt w c l k false false) (hc0 : w.cell? ⟨nb, 0, none⟩ = some (.int .u64 0)) (hfr : w.frozen? ⟨nb, 0, none⟩ = false)
    (hw0 : w0.grownBy w (some c)) (hnb : w0.heap.size ≤ nb) (het : ET w0) (hcg : some c ≠ some 0) :
    Calls Tryz.prog 76 #[.pointer (some ⟨c, 0, none⟩), .func (.func 77) #[] #[.pointer (some ⟨nb, 0, none⟩)]] w fun e w' =>
      ∃ b, e = .returned (.bool b) ∧ GrEnd w0 w' c nb l k b := by
  have h1 : w.cell? ⟨c, 1, none⟩ = some (.int .i64 k) := by
    obtain ⟨v, hv, hb, hk, hc⟩ := hcu
    exact (cur_cells hc).1.2.1
  have hk : k ≤ l.length := by obtain ⟨v, hv, hb, hk, hc⟩ := hcu; exact hk
  have H := hid (GrAt.mk hcu hc0 hfr (by simp) rfl hw0 : GrAt w0 w c nb l k 0 0)
  clear hcu hc0 hfr hw0
  go_enter Tryz.func76, Tryz.ntmps76
  go_wp2_with fail
  go_step3
  go_wp2_with ((go_at_call 54; refine (cur_at c _ k h1).mono ?_; rintro e w' ⟨rfl, rfl⟩))
  go_step3
  go_wp2_with fail
  go_loopw [10] (fun i wr => ∃ j n : Nat, j ≤ 10 ∧ i = .int .i64 (j : Int) ∧ GrAt w0 wr c nb l k j n) (fun i _ => 10 - (intOf i).toNat)
  case atStart => exact ⟨0, 0, by omega, rfl, H.out⟩
  case round =>
    obtain ⟨j, n, hj, rfl, hg⟩ := hrel
    have Hg := hid hg
    by_cases hj10 : j < 10
    · obtain ⟨f, hf⟩ : ∃ f, 10 - j = f + 1 := ⟨10 - j - 1, by omega⟩
      obtain ⟨p, cap, g0, g1, hkj⟩ : ∃ p cap, wr.cell? ⟨c, 0, none⟩ = some (.slice p l.length cap) ∧ wr.cell? ⟨c, 1, none⟩ = some (.int .i64 ((k + j : Nat) : Int)) ∧ k + j ≤ l.length := by
        obtain ⟨v, hv, hb, hkj, hc⟩ := hg.cur
        obtain ⟨p, cap, rfl, _⟩ := id hv
        exact ⟨p, cap, (cur_cells hc).1.1, (cur_cells hc).1.2.1, hkj⟩
      clear hg
      by_cases hat : k + j = l.length
      · have hun : ulebM (l.drop k) = none := by
          rw [Hg.out.eq, hf, hat, List.drop_length]; rfl
        have hd0 : decide ((l.length : Int) - ((k + j : Nat) : Int) = 0) = true := by simp; omega
        have Hun := hid hun
        clear hun hf
        go_wp2_with fail
        refine (cur_left c _ p l.length cap (k + j) hkj hl g0 g1).mono ?_
        rintro e w1 ⟨rfl, q, rfl⟩
        go_wp2_with fail
        refine (cur_seek_ok c (wr.drewN q) l _ k (k : Int) false (Hg.out.cur.heap rfl) rfl hk).mono ?_
        rintro e wa ⟨rfl, hca, hga⟩
        have Ha := hid (And.intro hca hga)
        have hfa : wa.frozen? ⟨c, 3, none⟩ = false ∧ ∃ x, wa.cell? ⟨c, 3, none⟩ = some x := by obtain ⟨v, hv, hb, hk, hc⟩ := hca; exact ⟨(cur_cells hc).2 3, _, (cur_cells hc).1.2.2.2⟩
        obtain ⟨hfa, xa, hxa⟩ := hfa
        clear hca hga
        go_wp2_with fail
        refine (cur_fail c _ hfa xa hxa).mono ?_
        rintro e wb ⟨rfl, rfl⟩
        go_wp2
        rw [noGoto_ret]
        go_ret
        refine ⟨false, rfl, grownBy_tr (grownBy_tr (grownBy_heap Hg.out.grown rfl rfl rfl rfl : w0.grownBy (wr.drewN q) (some c)) Ha.out.2) (grownBy_setCell wa c 3 _), ?_⟩
        rw [Hun.out]
        exact ⟨rfl, Ha.out.1.failed⟩
      · have hlt : k + j < l.length := by omega
        obtain ⟨x, hx⟩ : ∃ x, l[k + j]? = some x := ⟨l[k + j], List.getElem?_eq_getElem hlt⟩
        have hdr : l.drop (k + j) = x :: l.drop (k + (j + 1)) := by
          rw [List.drop_eq_getElem_cons hlt, ← Nat.add_assoc]
          rw [List.getElem?_eq_getElem hlt] at hx
          rw [Option.some.inj hx]
        have heq : ulebM (l.drop k) = if j = 9 ∧ 1 < grp x then none else if x.toNat < 128 then some (n + grp x * 128 ^ j, j + 1) else ulebF f (l.drop (k + (j + 1))) (j + 1) (n + grp x * 128 ^ j) := by
          rw [Hg.out.eq, hf, hdr]; rfl
        have Heq := hid heq
        have hn1 : num1 l ⟨k + j, false⟩ = (x.toNat, ⟨k + j + 1, false⟩) := by simp [num1, hx]
        have Hx := hid (And.intro hx hdr)
        have hd0 : decide ((l.length : Int) - ((k + j : Nat) : Int) = 0) = false := by simp; omega
        have hx256 := x.toNat_lt
        have h127 := and127 ⟨x.toNat, hx256⟩
        have h128 := and128 ⟨x.toNat, hx256⟩
        have hwx : IntKind.u8.wrap (x.toNat : Int) = (x.toNat : Int) := IntWalk.u8_in _ (by omega)
        have hgl := grp_lt x
        have hgr0 : w0.grownBy wr (some c) := Hg.out.grown
        dsimp only at h127 h128
        have hgx : x.toNat % 128 = grp x := rfl
        rw [hgx] at h127
        clear heq hx hdr hat hgx
        have Hn1 := hid hn1
        clear hn1
        go_wp2_with fail
        refine (cur_left c _ p l.length cap (k + j) hkj hl g0 g1).mono ?_
        rintro e w1 ⟨rfl, q, rfl⟩
        go_wp2_with fail
        refine (cur_num1 c (wr.drewN q) l ⟨k + j, false⟩ (Hg.out.cur.heap rfl) hl).mono ?_
        rintro e w2 ⟨m, s', hm, rfl, hc2, hg2⟩
        obtain ⟨rfl, rfl⟩ := Prod.mk.inj (hm.symm.trans Hn1.out)
        clear hm
        have hgr2 : w0.grownBy w2 (some c) := grownBy_tr hgr0 ⟨hg2.os, hg2.tape, hg2.output, hg2.size, hg2.block⟩
        have hnc : (some nb : Option Nat) ≠ some c := by
          intro e
          have := Hg.out.cell
          rw [Option.some.inj e, g0] at this
          cases this
        have hcell2 : w2.cell? ⟨nb, 0, none⟩ = some (.int .u64 (n : Nat)) := by
          have hlt := lt_of_cellB Hg.out.cell
          have hb := hg2.block nb hlt (fun e => hnc (e ▸ rfl))
          have hc := Hg.out.cell
          unfold World.cell? at hc ⊢
          simpa [hb] using hc
        have hfr2 : w2.frozen? ⟨nb, 0, none⟩ = false := by
          have hlt := lt_of_cellB Hg.out.cell
          have hb := hg2.block nb hlt (fun e => hnc (e ▸ rfl))
          have hc := Hg.out.own
          unfold World.frozen? at hc ⊢
          simpa [hb] using hc
        have het2 : ET w2 := het.grown hgr2 hcg
        have H2 := hid (And.intro hc2 (And.intro hgr2 (And.intro hcell2 (And.intro hfr2 het2))))
        clear hc2 hg2 hgr2 hcell2 hfr2 het2
        go_wp2_with fail
        refine (cur_err c w2 l (k + j + 1) false false H2.out.1 H2.out.2.2.2.2).mono ?_
        rintro e w3 ⟨rfl, hb3⟩
        have hcell3 : w3.cell? ⟨nb, 0, none⟩ = some (.int .u64 (n : Nat)) := by
          have hb := hb3.block nb (lt_of_cellB H2.out.2.2.1)
          have hc := H2.out.2.2.1
          unfold World.cell? at hc ⊢
          simpa [hb] using hc
        have hfr3 : w3.frozen? ⟨nb, 0, none⟩ = false := by
          have hb := hb3.block nb (lt_of_cellB H2.out.2.2.1)
          have hc := H2.out.2.2.2.1
          unfold World.frozen? at hc ⊢
          simpa [hb] using hc
        have hcu3 : CurAt w3 c l (k + j + 1) false false := CurAt.below H2.out.1 hb3
        have hgr3 : w0.grownBy w3 (some c) := grownBy_tr H2.out.2.1 (Below.all hb3 _)
        have H3 := hid (And.intro hcu3 (And.intro hcell3 (And.intro hfr3 hgr3)))
        clear hb3 hcell3 hfr3 hcu3 hgr3
        go_wp2_with fail
        refine (uleb_group w3 nb j (grp x) n (by omega) hgl Hg.out.lt H3.out.2.1 H3.out.2.2.1).mono ?_
        rintro e w4 ⟨rfl, X, q4, rfl, hX⟩
        have hs4 := CurAt.set64 H3.out.1 H3.out.2.1 (.int .u64 X)
        have hcell4 : ((w3.setCell ⟨nb, 0, none⟩ (.int .u64 X)).drewN q4).cell? ⟨nb, 0, none⟩ = some (.int .u64 X) := World.cell?_setCell_same _ _ _ H3.out.2.1
        have hgr4 : w0.grownBy ((w3.setCell ⟨nb, 0, none⟩ (.int .u64 X)).drewN q4) (some c) := by
          have h := H3.out.2.2.2
          refine grownBy_heap (w1 := w3.setCell ⟨nb, 0, none⟩ (.int .u64 X)) ⟨h.os, h.tape, h.output, by simpa [World.setCell] using h.size, fun i hi hr => ?_⟩ rfl rfl rfl rfl
          rw [heap_setCell_other w3 _ i _ (by simp; omega)]
          exact h.block i hi hr
        have hcu4 : CurAt ((w3.setCell ⟨nb, 0, none⟩ (.int .u64 X)).drewN q4) c l (k + j + 1) false false := hs4.2.heap rfl
        have hfr4 : ((w3.setCell ⟨nb, 0, none⟩ (.int .u64 X)).drewN q4).frozen? ⟨nb, 0, none⟩ = false := by
          rw [show ((w3.setCell ⟨nb, 0, none⟩ (.int .u64 X)).drewN q4).frozen? ⟨nb, 0, none⟩ = (w3.setCell ⟨nb, 0, none⟩ (.int .u64 X)).frozen? ⟨nb, 0, none⟩ from rfl]
          rw [World.frozen?_setCell]
          exact H3.out.2.2.1
        have H4 := hid (And.intro hcu4 (And.intro hcell4 (And.intro hfr4 hgr4)))
        have HX := hid hX
        clear hs4 hcell4 hgr4 hcu4 hfr4 hX
        by_cases hbad : j = 9 ∧ 1 < grp x
        · have hun : ulebM (l.drop k) = none := by rw [Heq.out, if_pos hbad]
          have Hun := hid hun
          have hdb : (decide (j < 9) || decide (grp x ≤ 1)) = false := by simp; omega
          clear hun hf
          rw [hdb]
          go_wp2_with fail
          refine (cur_seek_ok c _ l _ k (k : Int) false H4.out.1 rfl hk).mono ?_
          rintro e wa ⟨rfl, hca, hga⟩
          have Ha := hid (And.intro hca hga)
          have hfa : wa.frozen? ⟨c, 3, none⟩ = false ∧ ∃ x, wa.cell? ⟨c, 3, none⟩ = some x := by obtain ⟨v, hv, hb, hk, hc⟩ := hca; exact ⟨(cur_cells hc).2 3, _, (cur_cells hc).1.2.2.2⟩
          obtain ⟨hfa, xa, hxa⟩ := hfa
          clear hca hga
          go_wp2_with fail
          refine (cur_fail c _ hfa xa hxa).mono ?_
          rintro e wb ⟨rfl, rfl⟩
          go_wp2
          rw [noGoto_ret]
          go_ret
          refine ⟨false, rfl, grownBy_tr (grownBy_tr H4.out.2.2.2 Ha.out.2) (grownBy_setCell wa c 3 _), ?_⟩
          rw [Hun.out]
          exact ⟨rfl, Ha.out.1.failed⟩
        · have hdb : (decide (j < 9) || decide (grp x ≤ 1)) = true := by simp; omega
          rw [hdb]
          by_cases hsm : x.toNat < 128
          · have hun : ulebM (l.drop k) = some (n + grp x * 128 ^ j, j + 1) := by rw [Heq.out, if_neg hbad, if_pos hsm]
            have Hun := hid hun
            rw [decide_eq_true hsm] at h128
            clear hun hf
            go_wp2_with fail
            rw [noGoto_ret]
            go_ret
            refine ⟨true, rfl, H4.out.2.2.2, ?_⟩
            rw [Hun.out]
            refine ⟨rfl, H4.out.1, ?_⟩
            rw [← HX.out hbad]
            exact H4.out.2.1
          · rw [decide_eq_false hsm] at h128
            go_wp2_with fail
            refine ⟨⟨j + 1, n + grp x * 128 ^ j, by omega, by simp, ⟨H4.out.1, ?_, H4.out.2.2.1, ?_, ?_, H4.out.2.2.2⟩⟩, by simp [intOf]; omega⟩
            · rw [← HX.out hbad]; exact H4.out.2.1
            · have h1 := Hg.out.lt
              have h2 : grp x * 128 ^ j ≤ 127 * 128 ^ j := Nat.mul_le_mul_right _ (by omega)
              rw [Nat.pow_succ]; omega
            · rw [Heq.out, if_neg hbad, if_neg hsm, show 10 - (j + 1) = f from by omega]
    · obtain rfl : j = 10 := by omega
      have hun : ulebM (l.drop k) = none := by rw [hg.eq]; rfl
      have Hun := hid hun
      clear hun hg
      go_wp2_with fail
      refine (cur_seek_ok c _ l _ k (k : Int) false Hg.out.cur rfl hk).mono ?_
      rintro e wa ⟨rfl, hca, hga⟩
      have Ha := hid (And.intro hca hga)
      have hfa : wa.frozen? ⟨c, 3, none⟩ = false ∧ ∃ x, wa.cell? ⟨c, 3, none⟩ = some x := by obtain ⟨v, hv, hb, hk, hc⟩ := hca; exact ⟨(cur_cells hc).2 3, _, (cur_cells hc).1.2.2.2⟩
      obtain ⟨hfa, xa, hxa⟩ := hfa
      clear hca hga
      go_wp2_with fail
      refine (cur_fail c _ hfa xa hxa).mono ?_
      rintro e wb ⟨rfl, rfl⟩
      go_wp2
      rw [noGoto_ret]
      go_ret
      refine ⟨false, rfl, grownBy_tr (grownBy_tr Hg.out.grown Ha.out.2) (grownBy_setCell wa c 3 _), ?_⟩
      rw [Hun.out]
      exact ⟨rfl, Ha.out.1.failed⟩

end Go.Proofs.YtipgcdpmkpjokaaGreatDoor

namespace Go.Proofs.YtipgcdpmkpjokaaGreatDoor
set_option linter.unusedSimpArgs false
set_option linter.unusedVariables false
open Go.RowKit

set_option maxHeartbeats 2000000 in
theorem leb_groups_bad (w : World) (c nb k : Nat) (l : List UInt8) (hl : l.length ≤ 140737488355328) (hcu : CurAt w c l k false true) (het : ET w) :
    Calls Tryz.prog 76 #[.pointer (some ⟨c, 0, none⟩), .func (.func 77) #[] #[.pointer (some ⟨nb, 0, none⟩)]] w fun e w' =>
      e = .returned (.bool false) ∧ CurAt w' c l k false true ∧ w.grownBy w' (some c) := by
  obtain ⟨p, cap, h0, h1, h3, hf3, hk⟩ : ∃ p cap, w.cell? ⟨c, 0, none⟩ = some (.slice p l.length cap) ∧ w.cell? ⟨c, 1, none⟩ = some (.int .i64 k) ∧ w.cell? ⟨c, 3, none⟩ = some (.bool true) ∧ w.frozen? ⟨c, 3, none⟩ = false ∧ k ≤ l.length := by
    obtain ⟨v, hv, hb, hk, hc⟩ := hcu
    obtain ⟨p, cap, rfl, _⟩ := id hv
    exact ⟨p, cap, (cur_cells hc).1.1, (cur_cells hc).1.2.1, (cur_cells hc).1.2.2.2, (cur_cells hc).2 3, hk⟩
  have H := hid (And.intro hcu het)
  clear hcu het
  by_cases hat : k = l.length
  · have hd0 : ((l.length : Int) - (k : Int) == 0) = true := by rw [beq_iff_eq]; omega
    clear hat
    go_enter Tryz.func76, Tryz.ntmps76
    go_wp2_with fail
    go_step3
    go_wp2_with ((go_at_call 54; refine (cur_at c _ k h1).mono ?_; rintro e w' ⟨rfl, rfl⟩))
    go_step3
    go_wp2_with fail
    refine wp_loop_rounds 1 ?_
    rw [rounds_succ]
    go_wp2_with fail
    refine (cur_left c _ p l.length cap k hk hl h0 h1).mono ?_
    rintro e w1 ⟨rfl, q, rfl⟩
    go_wp2_with fail
    refine (cur_seek_bad c (w'.drewN q) l _ k (k : Int) false (H.out.1.heap rfl) rfl hk).mono ?_
    rintro e wa ⟨rfl, rfl⟩
    go_wp2_with fail
    refine (cur_fail c _ (by exact hf3) _ (by exact h3)).mono ?_
    rintro e wb ⟨rfl, rfl⟩
    go_wp2
    rw [noGoto_ret]
    go_ret
    exact ⟨rfl, CurAt.failed (H.out.1.heap rfl), grownBy_heap (grownBy_setCell w' c 3 (.bool true)) rfl rfl rfl rfl⟩
  · have hd0 : ((l.length : Int) - (k : Int) == 0) = false := by rw [beq_eq_false_iff_ne]; omega
    clear hat
    go_enter Tryz.func76, Tryz.ntmps76
    go_wp2_with fail
    go_step3
    go_wp2_with ((go_at_call 54; refine (cur_at c _ k h1).mono ?_; rintro e w' ⟨rfl, rfl⟩))
    go_step3
    go_wp2_with fail
    refine wp_loop_rounds 1 ?_
    rw [rounds_succ]
    go_wp2_with fail
    refine (cur_left c _ p l.length cap k hk hl h0 h1).mono ?_
    rintro e w1 ⟨rfl, q, rfl⟩
    go_wp2_with fail
    refine (cur_num1_bad c (w'.drewN q) l k (H.out.1.heap rfl)).mono ?_
    rintro e wa ⟨rfl, rfl⟩
    go_wp2_with fail
    refine (cur_err c (w'.drewN q) l k false true (H.out.1.heap rfl) (H.out.2.heap rfl)).mono ?_
    rintro e wb ⟨rfl, hb⟩
    go_wp2
    rw [noGoto_ret]
    go_ret
    exact ⟨rfl, CurAt.below (w := w'.drewN q) (H.out.1.heap rfl) hb, (grownBy_heap (w := w') (w1 := w') (grownBy_refl _ _) rfl rfl rfl rfl : w'.grownBy (w'.drewN q) (some c)) |> fun h => grownBy_tr h (Below.all hb _)⟩

/-- leb.Uleb, at a cursor in the state s. -/
theorem leb_uleb (w : World) (c : Nat) (l : List UInt8) (s : Cu) (hl : l.length ≤ 140737488355328) (hcu : CuAt w c l s) (het : ET w) :
    Calls Tryz.prog 51 #[.pointer (some ⟨c, 0, none⟩)] w fun e w' =>
      ∃ n s', numC l s = (n, s') ∧ e = .returned (.int .u64 (n : Nat)) ∧ CuAt w' c l s' ∧ w.grownBy w' (some c) := by
  have hcg := ET.ne het hcu
  obtain ⟨k, f⟩ := s
  have hb1 : Below w.heap.size w (w.alloc (.cells #[.int .u64 0] 26)) := (Below.refl _ _).alloc (Nat.le_refl _) _
  have hcu1 : CurAt (w.alloc (.cells #[.int .u64 0] 26)) c l k false f := CurAt.below hcu hb1
  have het1 : ET (w.alloc (.cells #[.int .u64 0] 26)) := het.grown (World.grownBy_alloc w _ none) (by simp)
  cases f with
  | true =>
    have H := hid (And.intro hcu1 het1)
    have hbd := leb_groups_bad _ c w.heap.size k l hl hcu1 het1
    have hg0 := World.grownBy_alloc w (.cells #[.int .u64 0] 26) (some c)
    have HG := hid hg0
    clear hcu hcu1 het1 hb1 hg0
    go_enter Tryz.func51, Tryz.ntmps51
    go_wp2_with fail
    refine hbd.mono ?_
    rintro e w1 ⟨rfl, hc1, hg1⟩
    have H1 := hid (And.intro hc1 hg1)
    clear hc1 hg1
    go_wp2
    go_ret
    exact ⟨0, ⟨k, true⟩, rfl, rfl, H1.out.1, grownBy_tr HG.out H1.out.2⟩
  | false =>
    have hg := leb_groups w (w.alloc (.cells #[.int .u64 0] 26)) c w.heap.size k l hl hcu1 (by simp) (by simp) (World.grownBy_alloc w _ (some c)) (Nat.le_refl _) het hcg
    clear hcu hcu1 het1 hb1
    go_enter Tryz.func51, Tryz.ntmps51
    go_wp2_with fail
    refine hg.mono ?_
    rintro e w1 ⟨b, rfl, hgr, hend⟩
    cases hu : ulebM (l.drop k) with
    | none =>
      rw [hu] at hend
      obtain ⟨rfl, hc1⟩ := hend
      have H1 := hid (And.intro hc1 (And.intro hgr hu))
      clear hc1 hgr hu
      go_wp2
      go_ret
      refine ⟨0, ⟨k, true⟩, ?_, rfl, H1.out.1, H1.out.2.1⟩
      unfold numC
      rw [if_neg (by simp), H1.out.2.2]
    | some p =>
      obtain ⟨n, sz⟩ := p
      rw [hu] at hend
      obtain ⟨rfl, hc1, hx⟩ := hend
      have H1 := hid (And.intro hc1 (And.intro hgr hu))
      clear hc1 hgr hu
      go_wp2
      go_ret
      refine ⟨n, ⟨k + sz, false⟩, ?_, rfl, H1.out.1, H1.out.2.1⟩
      unfold numC
      rw [if_neg (by simp), H1.out.2.2]
end Go.Proofs.YtipgcdpmkpjokaaGreatDoor
