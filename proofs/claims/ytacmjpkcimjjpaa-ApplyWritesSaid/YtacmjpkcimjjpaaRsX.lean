/- The reference's Write of a fixup. -/
import Derived.Test.YtacmjpkcimjjpaaRsV
import Derived.Test.YtacmjpkcimjjpaaApW
namespace Go.Proofs.Ytacmjpkcimjjpaa
set_option linter.unusedSimpArgs false
set_option linter.unusedVariables false
open Go.RowKit Go.Maps

def rapPgs (pgs : List Pg) (f : Fx) (sl tg : Nat) (is : Bool) : List Pg := if mayF f then wrB pgs (apAt f sl) (wordB (apVal f sl tg is) 8) 2 else pgs

def RapEnd (n0 : Nat) (w : World) (r : Nat) (vA vB vP : Value) (pgs : List Pg) (f : Fx) (sl tg : Nat) (is : Bool) (e : Ending) (w' : World) : Prop :=
  e = .returned (.int .i64 (apE pgs f sl)) ∧ RSp n0 w' r vA vB vP (rapPgs pgs f sl tg is) ∧ SpF w w' pgs

theorem RSp.lt {n0 : Nat} {W : World} {r : Nat} {vA vB vP : Value} {pgs : List Pg} (h : RSp n0 W r vA vB vP pgs) : ∀ g ∈ pgs, g.blk < W.heap.size := fun g hg => (h.pages g hg).1.lt

theorem far_word {n0 : Nat} {W w3 : World} {r : Nat} {vA vB vP v : Value} {pgs : List Pg} {l : List UInt8} (h : RSp n0 W r vA vB vP pgs) (hob : OB w3 W.heap.size 5 v l) : ∀ g ∈ pgs, ¬ inBlk v g.blk := by
  intro g hg hi
  have h1 := hob.high g.blk (inBlk_own hi)
  have h2 := h.lt g hg
  omega

theorem word_far {n0 : Nat} {r : Nat} {vA vB vP : Value} {pgs : List Pg} (W : World) (n : Nat) (hn : n < 2 ^ 64) (h : RSp n0 W r vA vB vP pgs) :
    Calls Try.prog 40 #[.int .u64 (n : Int)] W.drew fun e w' => ∃ vp vc, e = .returned (.slice vp 8 vc) ∧ Below W.heap.size W w' ∧ BS w' (.slice vp 8 vc) (wordB n 8) ∧ ∀ g ∈ pgs, ¬ inBlk (.slice vp 8 vc) g.blk := by
  refine (rs_word W.drew n hn).mono ?_
  rintro e w3 ⟨v, rfl, hob, hb3⟩
  have hbs := hob.bs (by rw [wordB_length]; decide)
  have hfar := far_word h hob
  obtain ⟨vp, vc, rfl⟩ := hob.form
  rw [wordB_length] at hbs hfar ⊢
  exact ⟨vp, vc, rfl, ⟨hb3.os, hb3.tape, hb3.output, hb3.size, hb3.block⟩, hbs, hfar⟩

theorem write_far {n0 : Nat} {r : Nat} {vA vB vP : Value} {pgs : List Pg} {w W : World} (W3 : World) (vp : Option Addr) (vc : Nat) (A V : Nat) (h : RSp n0 W r vA vB vP pgs) (hw : Below w.heap.size w W) (hl : pgs.length ≤ 8192) (hpr : ∀ g ∈ pgs, 0 ≤ g.prot ∧ g.prot ≤ 7) (hA : A < 2 ^ 64)
    (h3 : Below W.heap.size W W3 ∧ BS W3 (.slice vp 8 vc) (wordB V 8) ∧ ∀ g ∈ pgs, ¬ inBlk (.slice vp 8 vc) g.blk) :
    Calls Try.prog 39 #[.pointer (some ⟨r, 0, none⟩), .int .u64 (A : Int), .slice vp 8 vc, .int .i64 2] W3 fun e w' => e = .returned (.int .i64 (lookE pgs A 8 2)) ∧ RSp n0 w' r vA vB vP (wrB pgs A (wordB V 8) 2) ∧ SpF w w' pgs := by
  refine (rs_write n0 W3 r vA vB vP _ pgs (h.below h3.1) hl hpr A (wordB V 8) 2 h3.2.1 hA (by rw [wordB_length]; decide) (by rw [wordB_length]; decide) (by decide) h3.2.2).mono ?_
  rintro e w4 ⟨rfl, hsp, hf⟩
  rw [wordB_length]
  exact ⟨rfl, hsp, (SpF.of_below (hw.trans (h3.1.mono hw.size))).trans hf rfl⟩

set_option maxHeartbeats 4000000 in
theorem rap_write (n0 : Nat) (w : World) (r : Nat) (vA vB vP : Value) (pgs : List Pg) (h : RSp n0 w r vA vB vP pgs) (hl : pgs.length ≤ 8192) (hpr : ∀ g ∈ pgs, 0 ≤ g.prot ∧ g.prot ≤ 7) (f : Fx) (sl tg : Nat) (is : Bool) (hf : f.In) (hfl : f.sym.length ≤ 140737488355328) (hs : sl < 18446744073709551616) (ht : tg < 18446744073709551616) :
    Calls Try.prog 13 #[.pointer (some ⟨r, 0, none⟩), .int .u64 (sl : Int), f.v, .int .u64 (tg : Int), .bool is] w (RapEnd n0 w r vA vB vP pgs f sl tg is) := by
  have HM := hid (fun w => ref_fxmay w f hfl)
  have HV := hid (fun w => ref_value w f sl tg hf hs ht)
  have H := hid (And.intro h (And.intro hl (And.intro hpr (And.intro hf (And.intro hs ht)))))
  clear h hl hpr hf hs ht hfl
  unfold Fx.v at HM HV ⊢
  go_enter Try.func13, Try.ntmps13
  go_wp2_with fail
  refine (HM.out _).mono ?_
  rintro e w1 ⟨rfl, hb⟩
  have hrow : RowAt w1 w.heap.size 25 f.cells := RowAt.below (w := w.alloc (.cells f.cells 25)) (heap_alloc_new _ _) hb
  have hb1 : Below w.heap.size w w1 := ((Below.refl _ _).alloc (Nat.le_refl _) _).trans (hb.mono (by simp))
  have H1 := hid (And.intro hrow (And.intro hb1 (H.out.1.below hb1)))
  obtain ⟨c0, c1, c2, c3, c4, c5, c6⟩ := Fx.at7 hrow
  clear hb hrow hb1
  unfold RapEnd
  cases hm : mayF f with
  | false =>
    have HX := hid (show apE pgs f sl = 2 ∧ rapPgs pgs f sl tg is = pgs from ⟨by unfold apE; rw [hm]; rfl, by unfold rapPgs; rw [hm]; rfl⟩)
    clear hm
    go_wp2_with fail
    go_ret
    exact ⟨by rw [HX.out.1]; rfl, by rw [HX.out.2]; exact H1.out.2.2, SpF.of_below H1.out.2.1⟩
  | true =>
    have HX := hid (show apE pgs f sl = lookE pgs (apAt f sl) 8 2 ∧ rapPgs pgs f sl tg is = wrB pgs (apAt f sl) (wordB (apVal f sl tg is) 8) 2 from ⟨by unfold apE; rw [hm]; rfl, by unfold rapPgs; rw [hm]; rfl⟩)
    have hwa : IntKind.u64.wrap ((f.at_ : Int) + (sl : Int)) = (apAt f sl : Int) := by rw [← Int.natCast_add, u64_wrap_nat]; rfl
    obtain ⟨V, hV⟩ : ∃ V, V = apVal f sl tg is := ⟨_, rfl⟩
    obtain ⟨A, hA⟩ : ∃ A, A = apAt f sl := ⟨_, rfl⟩
    have hA64 : A < 2 ^ 64 := by rw [hA]; unfold apAt; omega
    rw [← hA, ← hV] at HX
    rw [← hA] at hwa
    by_cases hk : f.kind = 1 ∨ is = true
    · have hv : V = fxVal f sl tg := by rw [hV]; unfold apVal; rw [if_pos hk]
      have HVV := hid (show fxVal f sl tg = V ∧ V < 2 ^ 64 from ⟨hv.symm, by rw [hv]; exact fxVal_lt f sl tg H.out.2.2.2.1⟩)
      have HF := hid (And.intro hA64 hk)
      clear hm hV hA hA64 hv hk
      have step : is = true ∨ (is = false ∧ (f.kind == 1) = true) := by
        rcases HF.out.2 with h | h
        · cases is
          · exact .inr ⟨rfl, by rw [h]; rfl⟩
          · exact .inl rfl
        · exact .inl h
      rcases step with rfl | ⟨rfl, hk1⟩
      all_goals
        go_wp2_with fail
        refine (HV.out _).mono ?_
        rintro e w2 ⟨rfl, hb⟩
        rw [HVV.out.1]
        have hrow2 := H1.out.1.below hb
        have H2 := hid (And.intro (H1.out.2.2.below hb) (H1.out.2.1.trans (hb.mono H1.out.2.1.size)))
        obtain ⟨e0, e1, e2, e3, e4, e5, e6⟩ := Fx.at7 hrow2
        have HR2 := hid hrow2
        clear hb hrow2 c0 c1 c2 c3 c4 c5 c6
        go_wp2_with fail
        have HWd := hid (word_far w2 V HVV.out.2 H2.out.1)
        have HWr := hid (fun W3 vp vc h3 => write_far W3 vp vc A V H2.out.1 H2.out.2 H.out.2.1 H.out.2.2.1 HF.out.1 h3)
        go_region_with (first
          | (go_at_call 40; (with_reducible refine HWd.out.mono ?_); rintro e w3 ⟨vp, vc, rfl, hw3⟩; have e0' := below_cell' hw3.1 (World.block_lt_of_cell? w2 _ e0) e0; have H3 := hid hw3; clear hw3)
          | (go_at_call 39; (with_reducible refine (HWr.out _ _ _ H3.out).mono ?_); rintro e w4 ⟨rfl, h4⟩; have H4 := hid h4; clear h4))
        all_goals
          go_wp2_with fail
          go_ret
          exact ⟨by rw [HX.out.1]; rfl, by rw [HX.out.2]; exact H4.out.1, H4.out.2⟩
    · have hv : V = 0 := by rw [hV]; unfold apVal; rw [if_neg hk]
      have hk1 : (f.kind == 1) = false := by rw [beq_eq_false_iff_ne]; exact fun h => hk (.inl h)
      obtain rfl : is = false := by cases is; rfl; exact absurd (.inr rfl) hk
      subst hv
      have HF := hid (And.intro hA64 hk)
      have HVV := hid (And.intro hk1 (show 0 < 2 ^ 64 by decide))
      have H2 := hid (And.intro H1.out.2.2 H1.out.2.1)
      have e0 := c0
      clear hm hV hA hA64 hk
      go_wp2_with fail
      have HWd := hid (show Calls Try.prog 40 #[.int .u64 0] w1.drew _ from word_far w1 0 HVV.out.2 H2.out.1)
      have HWr := hid (fun W3 vp vc h3 => write_far W3 vp vc A 0 H2.out.1 H2.out.2 H.out.2.1 H.out.2.2.1 HF.out.1 h3)
      go_region_with (first
          | (go_at_call 40; (with_reducible refine HWd.out.mono ?_); rintro e w3 ⟨vp, vc, rfl, hw3⟩; have e0' := below_cell' hw3.1 (World.block_lt_of_cell? w1 _ e0) e0; have H3 := hid hw3; clear hw3)
          | (go_at_call 39; (with_reducible refine (HWr.out _ _ _ H3.out).mono ?_); rintro e w4 ⟨rfl, h4⟩; have H4 := hid h4; clear h4))
      all_goals
          go_wp2_with fail
          go_ret
          exact ⟨by rw [HX.out.1]; rfl, by rw [HX.out.2]; exact H4.out.1, H4.out.2⟩
end Go.Proofs.Ytacmjpkcimjjpaa
