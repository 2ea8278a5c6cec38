/- Package apply: Write. -/
import Derived.Test.YtacmjpkcimjjpaaFxR
namespace Go.Proofs.Ytacmjpkcimjjpaa
set_option linter.unusedSimpArgs false
set_option linter.unusedVariables false
open Go.RowKit Go.Maps

/-- What is written, and where. -/
def apVal (f : Fx) (sl tg : Nat) (is : Bool) : Nat := if f.kind = 1 ∨ is = true then fxVal f sl tg else 0
def apAt (f : Fx) (sl : Nat) : Nat := (f.at_ + sl) % 18446744073709551616
def apE (pgs : List Pg) (f : Fx) (sl : Nat) : Int := if mayF f then lookE pgs (apAt f sl) 8 2 else 2
def apPgs (pgs : List Pg) (f : Fx) (sl tg : Nat) (is : Bool) : List Pg := if mayF f then wrPgs pgs (apAt f sl) (wordB (apVal f sl tg is) 8) else pgs

def ApEnd (w : World) (s b : Nat) (pgs : List Pg) (f : Fx) (sl tg : Nat) (is : Bool) (e : Ending) (w' : World) : Prop :=
  e = .returned (.int .i64 (apE pgs f sl)) ∧ SpAt w' s b (apPgs pgs f sl tg is) ∧ SpF w w' pgs

theorem fxVal_lt (f : Fx) (sl tg : Nat) (hf : f.In) : fxVal f sl tg < 18446744073709551616 := by
  have := hf.tgt
  unfold fxVal
  split <;> omega

theorem Fx.at7 {w : World} {B : Nat} {f : Fx} (h : RowAt w B 25 f.cells) :
    w.cell? ⟨B, 0, none⟩ = some (.int .u64 (f.at_ : Int)) ∧ w.cell? ⟨B, 1, none⟩ = some (.int .i64 f.kind) ∧ w.cell? ⟨B, 2, none⟩ = some (.int .u64 (f.tgt : Int)) ∧ w.cell? ⟨B, 3, none⟩ = some (.int .i64 f.ord) ∧ w.cell? ⟨B, 4, none⟩ = some (.string (mkS f.sym)) ∧ w.cell? ⟨B, 5, none⟩ = some (.int .i64 f.add) ∧ w.cell? ⟨B, 6, none⟩ = some (.bool f.weak) :=
  ⟨h.cell 0, h.cell 1, h.cell 2, h.cell 3, h.cell 4, h.cell 5, h.cell 6⟩

set_option maxHeartbeats 1000000 in
theorem ap_nil (w : World) (f : Fx) (sl tg : Nat) (is : Bool) :
    Calls Try.prog 7 #[.pointer none, .int .u64 (sl : Int), f.v, .int .u64 (tg : Int), .bool is] w fun e w' => e = .returned (.int .i64 1) ∧ Below w.heap.size w w' := by
  unfold Fx.v
  go_enter Try.func7, Try.ntmps7
  go_wp2_with fail
  go_ret
  exact ⟨rfl, (Below.refl _ _).alloc (Nat.le_refl _) _⟩

set_option maxHeartbeats 2000000 in
theorem ap_write (w : World) (s b : Nat) (pgs : List Pg) (f : Fx) (sl tg : Nat) (is : Bool) (h : SpAt w s b pgs) (hlen : pgs.length ≤ 8192) (hf : f.In) (hs : sl < 18446744073709551616) (ht : tg < 18446744073709551616) :
    Calls Try.prog 7 #[.pointer (some ⟨s, 0, none⟩), .int .u64 (sl : Int), f.v, .int .u64 (tg : Int), .bool is] w (ApEnd w s b pgs f sl tg is) := by
  have HM := hid (fun w => fx_may w f)
  have HV := hid (fun w => fx_value w f sl tg hf hs ht)
  have H := hid (And.intro h (And.intro hlen (And.intro hf (And.intro hs ht))))
  clear h hlen hf hs ht
  unfold Fx.v at HM HV ⊢
  go_enter Try.func7, Try.ntmps7
  go_wp2_with fail
  refine (HM.out _).mono ?_
  rintro e w1 ⟨rfl, hb⟩
  have hrow : RowAt w1 w.heap.size 25 f.cells := RowAt.below (w := w.alloc (.cells f.cells 25)) (heap_alloc_new _ _) hb
  have hb1 : Below w.heap.size w w1 := ((Below.refl _ _).alloc (Nat.le_refl _) _).trans (hb.mono (by simp))
  have H1 := hid (And.intro hrow (And.intro hb1 (H.out.1.below hb1)))
  obtain ⟨c0, c1, c2, c3, c4, c5, c6⟩ := Fx.at7 hrow
  clear hb hrow hb1
  unfold ApEnd
  cases hm : mayF f with
  | false =>
    have HX := hid (show apE pgs f sl = 2 ∧ apPgs pgs f sl tg is = pgs from ⟨by unfold apE; rw [hm]; rfl, by unfold apPgs; rw [hm]; rfl⟩)
    clear hm
    go_wp2_with fail
    go_ret
    exact ⟨by rw [HX.out.1]; rfl, by rw [HX.out.2]; exact H1.out.2.2, SpF.of_below H1.out.2.1⟩
  | true =>
    have HX := hid (show apE pgs f sl = lookE pgs (apAt f sl) 8 2 ∧ apPgs pgs f sl tg is = wrPgs pgs (apAt f sl) (wordB (apVal f sl tg is) 8) from ⟨by unfold apE; rw [hm]; rfl, by unfold apPgs; rw [hm]; rfl⟩)
    have hwa : IntKind.u64.wrap ((f.at_ : Int) + (sl : Int)) = (apAt f sl : Int) := by rw [← Int.natCast_add, u64_wrap_nat]; rfl
    obtain ⟨V, hV⟩ : ∃ V, V = apVal f sl tg is := ⟨_, rfl⟩
    obtain ⟨A, hA⟩ : ∃ A, A = apAt f sl := ⟨_, rfl⟩
    have hA64 : A < 2 ^ 64 := by rw [hA]; unfold apAt; omega
    rw [← hA, ← hV] at HX
    rw [← hA] at hwa
    by_cases hk : f.kind = 1 ∨ is = true
    · have hv : V = fxVal f sl tg := by rw [hV]; unfold apVal; rw [if_pos hk]
      have HVV := hid (show fxVal f sl tg = V ∧ V < 2 ^ 64 from ⟨hv.symm, by rw [hv]; exact fxVal_lt f sl tg H.out.2.2.1⟩)
      have HF := hid (And.intro hA64 hk)
      clear hm hV hA hA64 hv hk
      have step : (f.kind == 1) = true ∨ ((f.kind == 1) = false ∧ is = true) := by
        rcases HF.out.2 with h | h
        · exact .inl (by rw [h]; rfl)
        · cases hh : f.kind == 1
          · exact .inr ⟨rfl, h⟩
          · exact .inl rfl
      rcases step with hk1 | ⟨hk1, hk2⟩
      all_goals
        (try subst hk2)
        go_wp2_with fail
        refine (HV.out _).mono ?_
        rintro e w2 ⟨rfl, hb⟩
        rw [HVV.out.1]
        have hrow2 := H1.out.1.below hb
        have H2 := hid (And.intro (H1.out.2.2.below hb) (H1.out.2.1.trans (hb.mono H1.out.2.1.size)))
        obtain ⟨e0, e1, e2, e3, e4, e5, e6⟩ := Fx.at7 hrow2
        clear hb hrow2 c0 c1 c2 c3 c4 c5 c6
        go_wp2_with fail
        refine (sp_setWord w2 s b A V pgs H2.out.1 H.out.2.1 HF.out.1 HVV.out.2).mono ?_
        rintro e w3 ⟨rfl, hsp, hf⟩
        have H3 := hid (And.intro hsp ((SpF.of_below H2.out.2).trans hf rfl))
        clear hsp hf
        go_wp2_with fail
        go_ret
        exact ⟨by rw [HX.out.1]; rfl, by rw [HX.out.2]; exact H3.out.1, H3.out.2⟩
    · have hv : V = 0 := by rw [hV]; unfold apVal; rw [if_neg hk]
      have hk1 : (f.kind == 1) = false := by rw [beq_eq_false_iff_ne]; exact fun h => hk (.inl h)
      obtain rfl : is = false := by cases is; rfl; exact absurd (.inr rfl) hk
      subst hv
      have HF := hid hA64
      clear hm hV hA hA64 hk
      go_wp2_with fail
      refine (sp_setWord w1 s b A 0 pgs H1.out.2.2 H.out.2.1 HF.out (by decide)).mono ?_
      rintro e w3 ⟨rfl, hsp, hf⟩
      have H3 := hid (And.intro hsp ((SpF.of_below H1.out.2.1).trans hf rfl))
      clear hsp hf
      go_wp2_with fail
      go_ret
      exact ⟨by rw [HX.out.1]; rfl, by rw [HX.out.2]; exact H3.out.1, H3.out.2⟩
end Go.Proofs.Ytacmjpkcimjjpaa
