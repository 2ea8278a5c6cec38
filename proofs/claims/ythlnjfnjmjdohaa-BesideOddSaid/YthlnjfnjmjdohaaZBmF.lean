/- The document's Find: the place of the byte at an address. -/
import Derived.Test.YthlnjfnjmjdohaaZBrC
namespace Go.Proofs.Ythlnjfnjmjdohaa
set_option linter.unusedSimpArgs false
set_option linter.unusedVariables false
open Go.RowKit

/-- The place z of the byte at an address, or -1. -/
def FoundZ (C : List Cz) (a : Nat) (z : Int) : Prop := (∃ (k : Nat) (c : Cz), C[k]? = some c ∧ c.at_ = a ∧ z = (k : Int)) ∨ (z = -1 ∧ ∀ c ∈ C, c.at_ ≠ a)
theorem up_at {C : List Cz} (h : Up C) {i j : Nat} {x y : Cz} (hi : C[i]? = some x) (hj : C[j]? = some y) (hij : i < j) : x.at_ < y.at_ := by
  obtain ⟨h1, rfl⟩ := List.getElem?_eq_some_iff.1 hi
  obtain ⟨h2, rfl⟩ := List.getElem?_eq_some_iff.1 hj
  exact List.pairwise_iff_getElem.1 h i j h1 h2 hij

set_option maxHeartbeats 2000000 in
set_option maxRecDepth 8000 in
theorem br_find (w : World) (v : Value) (C : List Cz) (a : Nat) (h : RowsAt czC 3 w v C) (hup : Up C) (ha : a < 2 ^ 64) (hc : ∀ c ∈ C, c.at_ < 2 ^ 64) (hlen : C.length ≤ 1000000) :
    Calls Try.prog 32 #[v, .int .u64 (a : Int)] w fun e w' => ∃ z, e = .returned (.int .i64 z) ∧ Below w.heap.size w w' ∧ FoundZ C a z := by
  obtain ⟨pc, cc, rfl⟩ := RowsAt.form h
  obtain ⟨N, hN⟩ : ∃ N, N = C.length := ⟨_, rfl⟩
  rw [← hN] at h hlen ⊢
  have H := hid (And.intro h (And.intro hup (And.intro ha (And.intro hc (And.intro hlen hN)))))
  clear h hup ha hc hlen hN
  go_enter Try.func32, Try.ntmps32
  go_wp2_with fail
  go_loopw [5, 6, 7] (fun vl vh vm wr => ∃ lo hi : Nat, lo ≤ hi ∧ hi ≤ N ∧ vl = .int .i64 (lo : Int) ∧ vh = .int .i64 (hi : Int) ∧ Below w.heap.size w wr ∧ (∀ j c, C[j]? = some c → j < lo → c.at_ < a) ∧ (∀ j c, C[j]? = some c → hi ≤ j → a ≤ c.at_)) (fun vl vh _ _ => (intOf vh).toNat - (intOf vl).toNat)
  case atStart =>
    exact ⟨0, N, Nat.zero_le _, Nat.le_refl _, rfl, rfl, Below.refl _ _, fun j c _ hj => absurd hj (Nat.not_lt_zero _), fun j c hj hle => by have := (List.getElem?_eq_some_iff.1 hj).1; have := H.out.2.2.2.2.2; omega⟩
  case round =>
    obtain ⟨lo, hi, hlh, hhN, rfl, rfl, hb, h1, h2⟩ := hrel
    have hN6 : N ≤ 1000000 := H.out.2.2.2.2.1
    by_cases hlt : lo < hi
    · obtain ⟨m, hm⟩ : ∃ m, m = (lo + hi) / 2 := ⟨_, rfl⟩
      have hmlo : lo ≤ m := by omega
      have hmhi : m < hi := by omega
      obtain ⟨x, hx⟩ : ∃ x, C[m]? = some x := ⟨_, List.getElem?_eq_getElem (by have := H.out.2.2.2.2.2; omega)⟩
      obtain ⟨g, off, rfl, hcx⟩ := RowsAt.at (H.out.1.below hb) hx
      have y0 : wr.cell? ⟨g, off + m * 3, none⟩ = some (.int .u64 (x.at_ : Int)) := by simpa using hcx 0 _ rfl
      have i1 : (0 : Int) ≤ (m : Int) := by omega
      have i2 : (m : Int) < (N : Int) := by omega
      have hltz : decide ((lo : Int) < (hi : Int)) = true := by rw [decide_eq_true_eq]; omega
      have hltn : decide (lo < hi) = true := by rw [decide_eq_true_eq]; omega
      have hws : IntKind.i64.wrap ((lo : Int) + (hi : Int)) = ((lo + hi : Nat) : Int) := (IntWalk.i64_in _ (by omega)).trans (by omega)
      have hwd : wrap64 (((lo : Int) + (hi : Int)).tdiv 2) = (m : Int) := by
        have e : ((lo : Int) + (hi : Int)).tdiv 2 = (m : Int) := by rw [Int.tdiv_eq_ediv_of_nonneg (by omega)]; omega
        rw [e]
        exact IntWalk.wrap64_in (m : Int) ⟨by omega, by omega⟩
      have hwm : IntKind.i64.wrap ((m : Int) + 1) = ((m + 1 : Nat) : Int) := (IntWalk.i64_in _ (by omega)).trans (by omega)
      have HX := hid (And.intro hb (And.intro h1 (And.intro h2 (And.intro hx (And.intro hmlo (And.intro hmhi hhN))))))
      clear hb h1 h2 hx hcx hm hmlo hmhi hhN hlt hlh
      by_cases hxa : x.at_ < a
      · as_aux_lemma =>
          have d1 : decide ((x.at_ : Int) < (a : Int)) = true := by rw [decide_eq_true_eq]; omega
          have d2 : decide (x.at_ < a) = true := by rw [decide_eq_true_eq]; omega
          have HY := hid hxa
          clear hxa
          go_wp2_with fail
          obtain ⟨hb, h1, h2, hx, q1, q2, q3⟩ := HX.out
          refine ⟨⟨m + 1, hi, by omega, q3, rfl, rfl, hb, fun j c hj hjm => ?_, h2⟩, by simp only [intOf, Int.toNat_natCast]; omega⟩
          rcases Nat.lt_or_eq_of_le (Nat.le_of_lt_succ hjm) with e | e
          · exact Nat.lt_trans (up_at H.out.2.1 hj hx e) HY.out
          · rw [e, hx] at hj; cases hj; exact HY.out
      · as_aux_lemma =>
          have d1 : decide ((x.at_ : Int) < (a : Int)) = false := by rw [decide_eq_false_iff_not]; omega
          have d2 : decide (x.at_ < a) = false := by rw [decide_eq_false_iff_not]; omega
          have HY := hid (show a ≤ x.at_ by omega)
          clear hxa
          go_wp2_with fail
          rw [hwd]
          clear hwd hws hwm
          obtain ⟨hb, h1, h2, hx, q1, q2, q3⟩ := HX.out
          refine ⟨⟨lo, m, q1, by omega, rfl, rfl, hb, h1, fun j c hj hjm => ?_⟩, by simp only [intOf, Int.toNat_natCast]; omega⟩
          rcases Nat.lt_or_eq_of_le hjm with e | e
          · exact Nat.le_trans HY.out (Nat.le_of_lt (up_at H.out.2.1 hx hj e))
          · rw [← e, hx] at hj; cases hj; exact HY.out
    · as_aux_lemma =>
        have hle : lo = hi := by omega
        have hltz : decide ((lo : Int) < (hi : Int)) = false := by rw [decide_eq_false_iff_not]; omega
        have hltn : decide (lo < hi) = false := by rw [decide_eq_false_iff_not]; omega
        by_cases hlN : lo < N
        · obtain ⟨x, hx⟩ : ∃ x, C[lo]? = some x := ⟨_, List.getElem?_eq_getElem (by have := H.out.2.2.2.2.2; omega)⟩
          obtain ⟨g, off, rfl, hcx⟩ := RowsAt.at (H.out.1.below hb) hx
          have y0 : wr.cell? ⟨g, off + lo * 3, none⟩ = some (.int .u64 (x.at_ : Int)) := by simpa using hcx 0 _ rfl
          have i1 : (0 : Int) ≤ (lo : Int) := by omega
          have i2 : (lo : Int) < (N : Int) := by omega
          have e1 : decide ((lo : Int) < (N : Int)) = true := by rw [decide_eq_true_eq]; omega
          have e2 : decide (lo < N) = true := by rw [decide_eq_true_eq]; omega
          have hrest : x.at_ ≠ a → FoundZ C a (-1) := fun hne => .inr ⟨rfl, fun c hc => by
            obtain ⟨j, hj, e⟩ := List.getElem_of_mem hc
            have hj' : C[j]? = some c := by rw [List.getElem?_eq_getElem hj, e]
            rcases Nat.lt_trichotomy j lo with q | q | q
            · have := h1 j c hj' q; omega
            · rw [q, hx] at hj'; cases hj'; exact hne
            · have := h2 lo x hx (by omega); have := up_at H.out.2.1 hx hj' q; omega⟩
          have HX := hid (And.intro hb (And.intro hx hrest))
          clear hb h1 h2 hx hcx hle hhN hlt hlh hlN hrest
          by_cases hxa : x.at_ = a
          · have f1 : ((x.at_ : Int) == (a : Int)) = true := by simp only [beq_iff_eq]; omega
            have f2 : (x.at_ == a) = true := by simp only [beq_iff_eq]; omega
            have HY := hid hxa
            clear hxa
            go_wp2_with fail
            refine bodyPost_ret (v := .int .i64 (lo : Int)) (by simp [results, Try.results32, go_sem]) rfl ?_
            exact ⟨_, rfl, HX.out.1, .inl ⟨lo, x, HX.out.2.1, HY.out, rfl⟩⟩
          · have f1 : ((x.at_ : Int) == (a : Int)) = false := by simp only [beq_eq_false_iff_ne]; omega
            have f2 : (x.at_ == a) = false := by simp only [beq_eq_false_iff_ne]; omega
            have HY := hid (HX.out.2.2 hxa)
            clear hxa
            go_wp2_with fail
            refine bodyPost_ret (v := .int .i64 (-1)) (by simp [results, Try.results32, go_sem]) rfl ?_
            exact ⟨_, rfl, HX.out.1, HY.out⟩
        · have e1 : decide ((lo : Int) < (N : Int)) = false := by rw [decide_eq_false_iff_not]; omega
          have e2 : decide (lo < N) = false := by rw [decide_eq_false_iff_not]; omega
          have hrest : FoundZ C a (-1) := .inr ⟨rfl, fun c hc => by
            obtain ⟨j, hj, e⟩ := List.getElem_of_mem hc
            have hj' : C[j]? = some c := by rw [List.getElem?_eq_getElem hj, e]
            have := h1 j c hj' (by have := H.out.2.2.2.2.2; omega)
            omega⟩
          have HX := hid (And.intro hb hrest)
          clear hb h1 h2 hle hhN hlt hlh hlN hrest
          go_wp2_with fail
          refine bodyPost_ret (v := .int .i64 (-1)) (by simp [results, Try.results32, go_sem]) rfl ?_
          exact ⟨_, rfl, HX.out.1, HX.out.2⟩
end Go.Proofs.Ythlnjfnjmjdohaa
