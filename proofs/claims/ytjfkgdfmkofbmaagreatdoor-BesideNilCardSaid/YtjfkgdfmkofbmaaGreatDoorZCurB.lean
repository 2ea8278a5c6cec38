/- Package cursor: what failed; texts; places. -/
import Derived.Test.YtjfkgdfmkofbmaaGreatDoorZCurE
import Derived.Test.YtjfkgdfmkofbmaaGreatDoorZAs
namespace Go.Proofs.YtjfkgdfmkofbmaaGreatDoor
set_option linter.unusedSimpArgs false
set_option linter.unusedVariables false
open Go.RowKit

/-- The variable of package errors that errors.As reads. -/
def ET (w : World) : Prop := w.cell? ⟨0, 0, none⟩ = some (.iface 206 (.agg #[.pointer (some ⟨5, 134, none⟩)]))

theorem ET.grown {w w' : World} {r : Option Nat} (h : ET w) (g : w.grownBy w' r) (hr : r ≠ some 0) : ET w' := by
  have hlt := lt_of_cellB h
  have hb := g.block 0 hlt (Ne.symm hr)
  unfold ET at h ⊢
  unfold World.cell? at h ⊢
  simpa [hb] using h

theorem ET.heap {w w' : World} (h : ET w) (hh : w'.heap = w.heap) : ET w' := by
  unfold ET at h ⊢
  unfold World.cell? at h ⊢
  simpa [hh] using h

theorem ET.ne {w : World} (h : ET w) {c k : Nat} {l : List UInt8} {big f : Bool} (hc : CurAt w c l k big f) : some c ≠ some 0 := by
  rintro e
  obtain rfl := Option.some.inj e
  obtain ⟨v, hv, hb, hk, hh⟩ := hc
  obtain ⟨p, cap, rfl, _⟩ := id hv
  have := (cur_cells hh).1.1
  rw [h] at this
  cases this

theorem grownBy_below {w w' : World} (h : w.grownBy w' none) : Below w.heap.size w w' := ⟨h.os, h.tape, h.output, h.size, fun k hk => h.block k hk (by simp)⟩

theorem CurAt.lt {w : World} {c k : Nat} {l : List UInt8} {big f : Bool} (h : CurAt w c l k big f) : c < w.heap.size := by
  obtain ⟨v, hv1, hb, hk, hc⟩ := h
  rcases Nat.lt_or_ge c w.heap.size with h | h
  · exact h
  · simp [Array.getElem?_eq_none h] at hc

theorem CurAt.below {w w' : World} {c k : Nat} {l : List UInt8} {big f : Bool} (h : CurAt w c l k big f) (hb : Below w.heap.size w w') : CurAt w' c l k big f := by
  have hlt := h.lt
  obtain ⟨v, hv1, hnb, hk, hc⟩ := h
  exact ⟨v, hv1.below hb, hnb, hk, by rw [hb.block c hlt]; exact hc⟩

set_option maxHeartbeats 400000 in
theorem cur_wrong_ok (c : Nat) (w : World) (hx : w.cell? ⟨c, 3, none⟩ = some (.bool false)) :
    Calls Tryz.prog 280 #[.pointer (some ⟨c, 0, none⟩)] w fun e w' => e = .returned .nilIface ∧ w' = w := by
  go_enter Tryz.func280, Tryz.ntmps280
  go_wp2
  go_ret
  exact ⟨rfl, rfl⟩

set_option maxHeartbeats 400000 in
theorem cur_wrong_bad (c : Nat) (w : World) (k : Nat) (hx : w.cell? ⟨c, 3, none⟩ = some (.bool true)) (h1 : w.cell? ⟨c, 1, none⟩ = some (.int .i64 k)) :
    Calls Tryz.prog 280 #[.pointer (some ⟨c, 0, none⟩)] w fun e w' => e = .returned (.iface 547 (.pointer (some ⟨w.heap.size, 0, none⟩))) ∧ w' = w.alloc (.cells #[.int .i64 k, .int .i64 3] 549) := by
  go_enter Tryz.func280, Tryz.ntmps280
  go_wp2
  go_ret
  exact ⟨rfl, rfl⟩

/-- Err: is 3 of a cursor that failed, 0 else. -/
theorem cur_err (c : Nat) (w : World) (l : List UInt8) (k : Nat) (big f : Bool) (h : CurAt w c l k big f) (hg : ET w) :
    Calls Tryz.prog 230 #[.pointer (some ⟨c, 0, none⟩)] w fun e w' => e = .returned (.int .i64 (if f then 3 else 0)) ∧ Below w.heap.size w w' := by
  obtain ⟨v, hv, hb, hk, hc⟩ := h
  obtain ⟨⟨h0, h1, h2, h3⟩, hf⟩ := cur_cells hc
  cases f with
  | false =>
    go_enter Tryz.func230, Tryz.ntmps230
    go_wp2_with (first
      | (go_at_call 280; refine (cur_wrong_ok c _ h3).mono ?_; rintro e w' ⟨rfl, rfl⟩)
      | (go_at_call 207; refine (code_nil _).mono ?_; rintro e w' ⟨rfl, hgr⟩))
    go_ret
    exact ⟨rfl, grownBy_below hgr⟩
  | true =>
    have hg1 := hg.grown (World.grownBy_alloc w (.cells #[.int .i64 k, .int .i64 3] 549) none) (by simp)
    have hc := code_wrong w.heap.size 3 (w.alloc (.cells #[.int .i64 k, .int .i64 3] 549)) hg1 (by simp)
    have hgr2 := fun w' (x : (w.alloc (.cells #[.int .i64 k, .int .i64 3] 549)).grownBy w' none) => grownBy_tr (World.grownBy_alloc w _ none) x
    go_enter Tryz.func230, Tryz.ntmps230
    go_wp2_with (first
      | (go_at_call 280; refine (cur_wrong_bad c _ k h3 h1).mono ?_; rintro e w' ⟨rfl, rfl⟩)
      | (go_at_call 207; refine hc.mono ?_; rintro e w' ⟨rfl, hgr⟩))
    go_ret
    exact ⟨rfl, grownBy_below (hgr2 _ hgr)⟩

set_option maxHeartbeats 400000 in
theorem cur_at (c : Nat) (w : World) (k : Nat) (h1 : w.cell? ⟨c, 1, none⟩ = some (.int .i64 k)) :
    Calls Tryz.prog 316 #[.pointer (some ⟨c, 0, none⟩)] w fun e w' => e = .returned (.int .i64 k) ∧ w' = w := by
  go_enter Tryz.func316, Tryz.ntmps316
  go_wp2
  go_ret
  exact ⟨rfl, rfl⟩

/-- A cursor in the state s. -/
def CuAt (w : World) (c : Nat) (l : List UInt8) (s : Cu) : Prop := CurAt w c l s.at_ false s.bad

/-- A byte at a cursor's place. -/
def num1 (l : List UInt8) (s : Cu) : Nat × Cu :=
  if s.bad then (0, s)
  else match l[s.at_]? with
    | some x => (x.toNat, ⟨s.at_ + 1, false⟩)
    | none => (0, ⟨s.at_, true⟩)

set_option maxHeartbeats 1000000 in
theorem cur_num1_bad (c : Nat) (w : World) (l : List UInt8) (k : Nat) (h : CurAt w c l k false true) :
    Calls Tryz.prog 165 #[.pointer (some ⟨c, 0, none⟩), .int .i64 1] w fun e w' => e = .returned (.int .u64 0) ∧ w' = w := by
  obtain ⟨v, hv, hb, hk, hc⟩ := h
  obtain ⟨⟨h0, h1, h2, h3⟩, hf⟩ := cur_cells hc
  go_enter Tryz.func165, Tryz.ntmps165
  go_wp2_with fail
  refine (cur_well_t c _ true (by exact h3)).mono ?_
  rintro e w' ⟨rfl, rfl⟩
  go_wp2
  go_ret
  exact ⟨rfl, rfl⟩

set_option maxHeartbeats 1000000 in
theorem cur_num1_out (c : Nat) (w : World) (l : List UInt8) (h : CurAt w c l l.length false false) (hl : l.length ≤ 140737488355328) :
    Calls Tryz.prog 165 #[.pointer (some ⟨c, 0, none⟩), .int .i64 1] w fun e w' => e = .returned (.int .u64 0) ∧ CurAt w' c l l.length false true ∧ w.grownBy w' (some c) := by
  have H := hid h
  obtain ⟨v, hv, hb, hk, hc⟩ := h
  obtain ⟨⟨h0, h1, h2, h3⟩, hf⟩ := cur_cells hc
  go_enter Tryz.func165, Tryz.ntmps165
  go_wp2_with fail
  refine (cur_well_t c _ false (by exact h3)).mono ?_
  rintro e w' ⟨rfl, rfl⟩
  go_wp2_with fail
  refine (cur_take_out c _ l l.length 1 false false H.out hl (by right; omega)).mono ?_
  rintro e w1 ⟨rfl, hc1, hg1⟩
  have H1 := hid (And.intro hc1 hg1)
  clear hc1 hg1
  go_wp2
  refine wp_loop_rounds 1 ?_
  rw [rounds_succ]
  go_wp2
  go_ret
  exact ⟨rfl, H1.out.1, H1.out.2⟩

theorem cur_num1 (c : Nat) (w : World) (l : List UInt8) (s : Cu) (h : CuAt w c l s) (hl : l.length ≤ 140737488355328) :
    Calls Tryz.prog 165 #[.pointer (some ⟨c, 0, none⟩), .int .i64 1] w fun e w' =>
      ∃ n s', num1 l s = (n, s') ∧ e = .returned (.int .u64 (n : Nat)) ∧ CuAt w' c l s' ∧ w.grownBy w' (some c) := by
  obtain ⟨k, f⟩ := s
  have hk : k ≤ l.length := by obtain ⟨v, hv, hb, hk, hc⟩ := h; exact hk
  cases f with
  | true =>
    refine (cur_num1_bad c w l k h).mono ?_
    rintro e w' ⟨rfl, rfl⟩
    exact ⟨_, _, rfl, rfl, h, grownBy_refl _ _⟩
  | false =>
    by_cases hlt : k < l.length
    · refine (cur_number_ok c w l k 1 1 (.inl rfl) rfl h (by omega)).mono ?_
      rintro e w' ⟨rfl, h1, h2⟩
      have hx : l[k]? = some (l[k]) := List.getElem?_eq_getElem hlt
      refine ⟨l[k].toNat, ⟨k + 1, false⟩, by simp [num1, hx], ?_, h1, h2⟩
      congr 2
      have : (l.drop k).take 1 = [l[k]] := by
        rw [List.drop_eq_getElem_cons hlt]; rfl
      rw [this]
      simp [leNat]
    · obtain rfl : k = l.length := by omega
      refine (cur_num1_out c w l h hl).mono ?_
      rintro e w' ⟨rfl, h1, h2⟩
      exact ⟨0, ⟨l.length, true⟩, by simp [num1], rfl, h1, h2⟩

end Go.Proofs.YtjfkgdfmkofbmaaGreatDoor
