/- The reference's cursor: the walks. -/
import Derived.Test.YthhjdkcnkdffcaaGreatZRfA
import Derived.Test.YthhjdkcnkdffcaaGreatZTMayR
import Derived.BigQuiet
import Derived.Test.YthhjdkcnkdffcaaGreatZLebM
namespace Go.Proofs.YthhjdkcnkdffcaaGreat
set_option linter.unusedSimpArgs false
set_option linter.unusedVariables false
open Go.RowKit
/-- The reference's cursor over the bytes l stands in the block c. -/
structure RAt (w : World) (c : Nat) (p : Option Addr) (cap : Nat) (l : List UInt8) (s : Cu) : Prop where
  bs : BS w (.slice p l.length cap) l
  far : ∀ k, inBlk (.slice p l.length cap) k → k < c
  le : s.at_ ≤ l.length
  row : RowAt w c 150 #[.slice p l.length cap, .int .i64 (s.at_ : Nat), .bool s.bad]
theorem RAt.heap {w w' : World} {c : Nat} {p : Option Addr} {cap : Nat} {l : List UInt8} {s : Cu} (h : RAt w c p cap l s) (hh : w'.heap = w.heap) : RAt w' c p cap l s :=
  ⟨h.bs.heap hh, h.far, h.le, by have := h.row; unfold RowAt at this ⊢; rw [hh]; exact this⟩
theorem RAt.setBad {w : World} {c : Nat} {p : Option Addr} {cap : Nat} {l : List UInt8} {s : Cu} (h : RAt w c p cap l s) (b : Bool) : RAt (w.setCell ⟨c, 2, none⟩ (.bool b)) c p cap l ⟨s.at_, b⟩ :=
  ⟨h.bs.grown (grownBy_setB w c 2 _) (offB h.far), h.far, h.le, by unfold RowAt; rw [heap_setCell_same _ _ _ _ _ _ h.row]; rfl⟩
theorem RAt.setAt {w : World} {c : Nat} {p : Option Addr} {cap : Nat} {l : List UInt8} {s : Cu} (h : RAt w c p cap l s) (k : Nat) (hk : k ≤ l.length) : RAt (w.setCell ⟨c, 1, none⟩ (.int .i64 (k : Nat))) c p cap l ⟨k, s.bad⟩ :=
  ⟨h.bs.grown (grownBy_setB w c 1 _) (offB h.far), h.far, hk, by unfold RowAt; rw [heap_setCell_same _ _ _ _ _ _ h.row]; rfl⟩
/-- A number, as the reference takes it. -/
def numR (l : List UInt8) (s : Cu) : Nat × Cu := ((ulebR (l.drop s.at_)).1, ⟨s.at_ + (ulebR (l.drop s.at_)).2, s.bad || (ulebR (l.drop s.at_)).2 == 0⟩)
/-- A text, as the reference takes it. -/
def textRf (l : List UInt8) (s : Cu) : List UInt8 × Cu :=
  if 255 < nul (l.drop s.at_) ∨ l.length ≤ s.at_ + nul (l.drop s.at_) then ([], ⟨s.at_, true⟩)
  else ((l.drop s.at_).take (nul (l.drop s.at_)), ⟨s.at_ + nul (l.drop s.at_) + 1, s.bad⟩)
theorem ulebR_le (b : List UInt8) : (ulebR b).2 ≤ b.length := by
  unfold ulebR
  cases h : ulebM b with
  | none => exact Nat.zero_le _
  | some q => exact (ulebM_lt h).2.2.2
set_option maxHeartbeats 1000000 in
theorem ref_number (w : World) (c : Nat) (p : Option Addr) (cap : Nat) (l : List UInt8) (s : Cu) (h : RAt w c p cap l s) :
    Calls Tryz.prog 70 #[.pointer (some ⟨c, 0, none⟩)] w fun e w' => e = .returned (.int .u64 ((numR l s).1 : Nat)) ∧ RAt w' c p cap l (numR l s).2 ∧ w.grownBy w' (some c) := by
  have hcp := h.bs.cap
  have hle := h.le
  obtain ⟨k, bad⟩ := s
  change k ≤ l.length at hle
  have c0 : w.cell? ⟨c, 0, none⟩ = some (.slice p l.length cap) := cell_of_row w c 0 _ _ _ h.row
  have c1 : w.cell? ⟨c, 1, none⟩ = some (.int .i64 (k : Nat)) := cell_of_row w c 1 _ _ _ h.row
  have c2 : w.cell? ⟨c, 2, none⟩ = some (.bool bad) := cell_of_row w c 2 _ _ _ h.row
  have cf : ∀ i, w.frozen? ⟨c, i, none⟩ = false := fun i => frozen_of_row w c i _ _ h.row
  have hsl := fun (w : World) => run_subl (P := Tryz.prog) (w := w) (t := 27) p l.length cap un_bs (sz_u8 w) .i64 (k : Int) (by omega) (by omega)
  simp only [Int.toNat_natCast] at hsl
  have hu := ref_uleb w.drew _ _ _ _ ((drop_bs h.bs hle).heap (w' := w.drew) rfl)
  have hul := ulebR_le (l.drop k)
  rw [List.length_drop] at hul
  obtain ⟨v, z, hvz⟩ : ∃ v z, ulebR (l.drop k) = (v, z) := ⟨_, _, rfl⟩
  rw [hvz] at hul
  rw [hvz] at hu
  have hz : (z == 0) = ((z : Int) == 0) := by cases z <;> rfl
  obtain ⟨F, hF⟩ : ∃ F, F = (bad || ((z : Int) == 0)) := ⟨_, rfl⟩
  have hn : numR l ⟨k, bad⟩ = (v, ⟨k + z, F⟩) := by unfold numR; rw [hvz, hF, ← hz]
  rw [hn]
  have h2 := ((h.setBad F).setAt (k + z) (by omega))
  rw [Int.natCast_add] at h2
  have H := hid (And.intro h2 (And.intro hu hF))
  clear h hu hvz hn hz h2 hF
  go_enter Tryz.func70, Tryz.ntmps70
  go_wp2_with fail
  go_region_with (first | (go_at_call 82; (with_reducible refine H.out.2.1.mono ?_); rintro e w4 ⟨rfl, rfl⟩) | fail "no call")
  all_goals go_wp2_with fail
  all_goals
    go_ret
    have hF := H.out.2.2
    have h2 := H.out.1
    first
    | (rw [show F = ((z : Int) == 0) from by rw [hF]; simp [*]] at h2 ⊢; exact ⟨rfl, h2.heap rfl, grownBy_heap (grownBy_tr (grownBy_setB w c 2 _) (grownBy_setB _ c 1 _)) rfl rfl rfl rfl⟩)
    | (rw [show F = true from by rw [hF]; simp [*]] at h2 ⊢; exact ⟨rfl, h2.heap rfl, grownBy_heap (grownBy_tr (grownBy_setB w c 2 _) (grownBy_setB _ c 1 _)) rfl rfl rfl rfl⟩)
end Go.Proofs.YthhjdkcnkdffcaaGreat

namespace Go.Proofs.YthhjdkcnkdffcaaGreat
set_option linter.unusedSimpArgs false
set_option linter.unusedVariables false
open Go.RowKit
set_option maxHeartbeats 1000000 in
theorem ref_text_c (w : World) (c : Nat) (p : Option Addr) (cap : Nat) (l : List UInt8) (s : Cu) (h : RAt w c p cap l s) :
    Calls Tryz.prog 72 #[.pointer (some ⟨c, 0, none⟩)] w fun e w' => e = .returned (.string (mkS (textRf l s).1)) ∧ RAt w' c p cap l (textRf l s).2 ∧ w.grownBy w' (some c) := by
  have hcp := h.bs.cap
  have hle := h.le
  obtain ⟨k, bad⟩ := s
  change k ≤ l.length at hle
  have c0 : w.cell? ⟨c, 0, none⟩ = some (.slice p l.length cap) := cell_of_row w c 0 _ _ _ h.row
  have c1 : w.cell? ⟨c, 1, none⟩ = some (.int .i64 (k : Nat)) := cell_of_row w c 1 _ _ _ h.row
  have c2 : w.cell? ⟨c, 2, none⟩ = some (.bool bad) := cell_of_row w c 2 _ _ _ h.row
  have cf : ∀ i, w.frozen? ⟨c, i, none⟩ = false := fun i => frozen_of_row w c i _ _ h.row
  have hsl := fun (w : World) => run_subl (P := Tryz.prog) (w := w) (t := 27) p l.length cap un_bs (sz_u8 w) .i64 (k : Int) (by omega) (by omega)
  simp only [Int.toNat_natCast] at hsl
  have hu := ref_name w.drew _ _ _ _ ((drop_bs h.bs hle).heap (w' := w.drew) rfl)
  have hnl := nul_le (l.drop k)
  rw [List.length_drop] at hnl
  obtain ⟨t, ht⟩ : ∃ t, t = (l.drop k).take (nul (l.drop k)) := ⟨_, rfl⟩
  have htl : t.length = nul (l.drop k) := by rw [ht, List.length_take, List.length_drop]; omega
  have hn : textRf l ⟨k, bad⟩ = if 255 < t.length ∨ l.length ≤ k + t.length then ([], ⟨k, true⟩) else (t, ⟨k + t.length + 1, bad⟩) := by unfold textRf; rw [htl, ht]
  rw [← ht] at hu
  rw [hn]
  have htl2 : k + t.length ≤ l.length := by omega
  have H := hid (And.intro h hu)
  clear hu ht htl hn hnl
  have hca : ((k : Int) + (t.length : Int)) = ((k + t.length : Nat) : Int) := by omega
  have w1 : IntKind.i64.wrap ((k : Int) + (t.length : Int)) = (k : Int) + (t.length : Int) := IntWalk.i64_in _ (by omega)
  have w2 : IntKind.i64.wrap ((k : Int) + (t.length : Int) + 1) = (k : Int) + (t.length : Int) + 1 := IntWalk.i64_in _ (by omega)
  clear h hca
  by_cases h1 : 255 < t.length
  · rw [if_pos (.inl h1)]
    have hd1 : decide ((255 : Int) < (t.length : Int)) = true := by simp; omega
    have hd2 : decide (255 < t.length) = true := by simp; omega
    clear h1
    go_enter Tryz.func72, Tryz.ntmps72
    go_wp2_with fail
    go_region_with (first | (go_at_call 54; (with_reducible refine H.out.2.mono ?_); rintro e w4 ⟨rfl, rfl⟩) | fail "no call")
    all_goals
      go_wp2_with fail
      have hr := H.out.1.heap (w' := w.drew) rfl
      have hgw : w.grownBy w.drew (some c) := ⟨rfl, rfl, rfl, Nat.le_refl _, fun _ _ _ => rfl⟩
      obtain ⟨W, hW⟩ : ∃ W, W = w.drew := ⟨_, rfl⟩
      rw [← hW] at hr hgw
      rw [← hW]
      clear c0 c1 c2 cf hW hsl H
      have c0 : W.cell? ⟨c, 0, none⟩ = some (.slice p l.length cap) := cell_of_row W c 0 _ _ _ hr.row
      have c1 : W.cell? ⟨c, 1, none⟩ = some (.int .i64 (k : Nat)) := cell_of_row W c 1 _ _ _ hr.row
      have c2 : W.cell? ⟨c, 2, none⟩ = some (.bool bad) := cell_of_row W c 2 _ _ _ hr.row
      have cf : ∀ i, W.frozen? ⟨c, i, none⟩ = false := fun i => frozen_of_row W c i _ _ hr.row
      have H2 := hid (And.intro hr hgw)
      clear hr hgw
      simp [Act.put]
      go_quiet (fail)
      go_wp2_with fail
      go_ret
      exact ⟨rfl, (H2.out.1.setBad true).heap rfl, grownBy_heap (grownBy_tr H2.out.2 (grownBy_setB W c 2 _)) rfl rfl rfl rfl⟩
  · have hd1 : decide ((255 : Int) < (t.length : Int)) = false := by simp; omega
    have hd2 : decide (255 < t.length) = false := by simp; omega
    by_cases h2 : l.length ≤ k + t.length
    · rw [if_pos (.inr h2)]
      have hd3 : decide ((l.length : Int) ≤ (k : Int) + (t.length : Int)) = true := by simp; omega
      have hd4 : decide (l.length ≤ k + t.length) = true := by simp; omega
      clear h1 h2
      go_enter Tryz.func72, Tryz.ntmps72
      go_wp2_with fail
      go_region_with (first | (go_at_call 54; (with_reducible refine H.out.2.mono ?_); rintro e w4 ⟨rfl, rfl⟩) | fail "no call")
      all_goals
        go_wp2_with fail
        have hr := H.out.1.heap (w' := w.drew) rfl
        have hgw : w.grownBy w.drew (some c) := ⟨rfl, rfl, rfl, Nat.le_refl _, fun _ _ _ => rfl⟩
        obtain ⟨W, hW⟩ : ∃ W, W = w.drew := ⟨_, rfl⟩
        rw [← hW] at hr hgw
        rw [← hW]
        clear c0 c1 c2 cf hW hsl H
        have c0 : W.cell? ⟨c, 0, none⟩ = some (.slice p l.length cap) := cell_of_row W c 0 _ _ _ hr.row
        have c1 : W.cell? ⟨c, 1, none⟩ = some (.int .i64 (k : Nat)) := cell_of_row W c 1 _ _ _ hr.row
        have c2 : W.cell? ⟨c, 2, none⟩ = some (.bool bad) := cell_of_row W c 2 _ _ _ hr.row
        have cf : ∀ i, W.frozen? ⟨c, i, none⟩ = false := fun i => frozen_of_row W c i _ _ hr.row
        have H2 := hid (And.intro hr hgw)
        clear hr hgw
        simp [Act.put]
        go_quiet (fail)
        go_wp2_with fail
        go_ret
        exact ⟨rfl, (H2.out.1.setBad true).heap rfl, grownBy_heap (grownBy_tr H2.out.2 (grownBy_setB W c 2 _)) rfl rfl rfl rfl⟩
    · rw [if_neg (by omega)]
      have hd3 : decide ((l.length : Int) ≤ (k : Int) + (t.length : Int)) = false := by simp; omega
      have hd4 : decide (l.length ≤ k + t.length) = false := by simp; omega
      have hlt : k + t.length + 1 ≤ l.length := by omega
      clear h1 h2
      go_enter Tryz.func72, Tryz.ntmps72
      go_wp2_with fail
      go_region_with (first | (go_at_call 54; (with_reducible refine H.out.2.mono ?_); rintro e w4 ⟨rfl, rfl⟩) | fail "no call")
      all_goals
        go_wp2_with fail
        have hr := H.out.1.heap (w' := w.drew) rfl
        have hgw : w.grownBy w.drew (some c) := ⟨rfl, rfl, rfl, Nat.le_refl _, fun _ _ _ => rfl⟩
        obtain ⟨W, hW⟩ : ∃ W, W = w.drew := ⟨_, rfl⟩
        rw [← hW] at hr hgw
        rw [← hW]
        clear c0 c1 c2 cf hW hsl H
        have c0 : W.cell? ⟨c, 0, none⟩ = some (.slice p l.length cap) := cell_of_row W c 0 _ _ _ hr.row
        have c1 : W.cell? ⟨c, 1, none⟩ = some (.int .i64 (k : Nat)) := cell_of_row W c 1 _ _ _ hr.row
        have c2 : W.cell? ⟨c, 2, none⟩ = some (.bool bad) := cell_of_row W c 2 _ _ _ hr.row
        have cf : ∀ i, W.frozen? ⟨c, i, none⟩ = false := fun i => frozen_of_row W c i _ _ hr.row
        have H2 := hid (And.intro hr hgw)
        clear hr hgw
        simp [Act.put]
        go_quiet (fail)
        go_wp2_with fail
        go_ret
        have h3 := H2.out.1.setAt (k + t.length + 1) (by omega)
        rw [Int.natCast_add, Int.natCast_add] at h3
        exact ⟨rfl, h3.heap rfl, grownBy_heap (grownBy_tr H2.out.2 (grownBy_setB W c 1 _)) rfl rfl rfl rfl⟩
end Go.Proofs.YthhjdkcnkdffcaaGreat

namespace Go.Proofs.YthhjdkcnkdffcaaGreat
set_option linter.unusedSimpArgs false
set_option linter.unusedVariables false
theorem numR_good (l : List UInt8) (k : Nat) : numR l ⟨k, false⟩ = numC l ⟨k, false⟩ := by
  unfold numR numC ulebR
  cases h : ulebM (l.drop k) with
  | none => simp [h]
  | some q =>
    obtain ⟨n, j⟩ := q
    have := (ulebM_lt h).2.1
    have hj : (j == 0) = false := by rw [beq_eq_false_iff_ne]; omega
    simp [h, hj]
theorem textRf_good (l : List UInt8) (k : Nat) : textRf l ⟨k, false⟩ = textC l 255 ⟨k, false⟩ := by
  unfold textRf textC
  have h1 := nul_le (l.drop k)
  have hl : (l.drop k).length = l.length - k := List.length_drop
  simp only [hl] at h1 ⊢
  by_cases h : 255 < nul (l.drop k) ∨ l.length ≤ k + nul (l.drop k)
  · rw [if_pos h, if_neg (by simp), if_neg (by omega)]
  · rw [if_neg h, if_neg (by simp), if_pos (by omega)]
theorem numR_bad {l : List UInt8} {s : Cu} (h : s.bad = true) : (numR l s).2.bad = true := by
  unfold numR
  simp [h]
theorem textRf_bad {l : List UInt8} {s : Cu} (h : s.bad = true) : (textRf l s).2.bad = true := by
  unfold textRf
  split
  · rfl
  · exact h
end Go.Proofs.YthhjdkcnkdffcaaGreat

namespace Go.Proofs.YthhjdkcnkdffcaaGreat
set_option linter.unusedSimpArgs false
set_option linter.unusedVariables false
theorem ulebF_take1 : ∀ (f m : Nat) (b : List UInt8) (i n : Nat) (r : Nat × Nat), ulebF f (b.take m) i n = some r → ulebF f b i n = some r
  | 0, _, _, _, _, _, h => by cases h
  | f + 1, m, [], i, n, r, h => by simpa using h
  | f + 1, 0, x :: b, i, n, r, h => by simp [ulebF] at h
  | f + 1, m + 1, x :: b, i, n, r, h => by
    rw [List.take_succ_cons, ulebF] at h
    rw [ulebF]
    split at h
    · cases h
    · rename_i h1
      rw [if_neg h1]
      split at h
      · rename_i h2
        rw [if_pos h2]; exact h
      · rename_i h2
        rw [if_neg h2]
        exact ulebF_take1 f m b _ _ r h
theorem ulebF_take2 : ∀ (f m : Nat) (b : List UInt8) (i n v k : Nat), ulebF f b i n = some (v, k) → k ≤ i + m → ulebF f (b.take m) i n = some (v, k)
  | 0, _, _, _, _, _, _, h, _ => by cases h
  | f + 1, m, [], i, n, v, k, h, hk => by simpa using h
  | f + 1, 0, x :: b, i, n, v, k, h, hk => by
    exfalso
    rw [ulebF] at h
    split at h
    · cases h
    · split at h
      · cases h; omega
      · have := ulebF_ge f b _ _ _ _ h
        omega
  | f + 1, m + 1, x :: b, i, n, v, k, h, hk => by
    rw [List.take_succ_cons, ulebF]
    rw [ulebF] at h
    split at h
    · cases h
    · rename_i h1
      rw [if_neg h1]
      split at h
      · rename_i h2
        rw [if_pos h2]; exact h
      · rename_i h2
        rw [if_neg h2]
        exact ulebF_take2 f m b _ _ v k h (by omega)
where
  ulebF_ge : ∀ (f : Nat) (b : List UInt8) (i n v k : Nat), ulebF f b i n = some (v, k) → i < k
    | 0, _, _, _, _, _, h => by cases h
    | f + 1, [], _, _, _, _, h => by cases h
    | f + 1, x :: b, i, n, v, k, h => by
      rw [ulebF] at h
      split at h
      · cases h
      · split at h
        · cases h; omega
        · have := ulebF_ge f b _ _ _ _ h
          omega
theorem uleb1 {m : Nat} {b : List UInt8} {r : Nat × Nat} (h : ulebM (b.take m) = some r) : ulebM b = some r := ulebF_take1 10 m b 0 0 r h
theorem uleb2 {m : Nat} {b : List UInt8} {v k : Nat} (h : ulebM b = some (v, k)) (hk : k ≤ m) : ulebM (b.take m) = some (v, k) := ulebF_take2 10 m b 0 0 v k h (by omega)
theorem nul_take (m : Nat) : ∀ b : List UInt8, nul (b.take m) = min m (nul b) := by
  induction m with
  | zero => intro b; simp [nul]
  | succ m ih =>
    intro b
    cases b with
    | nil => simp [nul]
    | cons x b =>
      rw [List.take_succ_cons, nul_cons, nul_cons, ih]
      split
      · simp
      · omega
theorem text1 {m : Nat} {b : List UInt8} {r : List UInt8 × Nat} (h : textR (b.take m) = some r) : textR b = some r := by
  unfold textR at h ⊢
  have hn := nul_take m b
  have hle := nul_le b
  split at h
  · rename_i hc
    rw [List.length_take, hn] at hc
    have e : nul (b.take m) = nul b := by rw [hn]; omega
    rw [if_pos (by omega)]
    rw [e, List.take_take, Nat.min_eq_left (by omega)] at h
    exact h
  · cases h
theorem text2 {m : Nat} {b : List UInt8} {t : List UInt8} {k : Nat} (h : textR b = some (t, k)) (hk : k ≤ m) : textR (b.take m) = some (t, k) := by
  unfold textR at h ⊢
  have hn := nul_take m b
  split at h
  · rename_i hc
    cases h
    have e : nul (b.take m) = nul b := by rw [hn]; omega
    rw [if_pos (by rw [e, List.length_take]; omega), e, List.take_take, Nat.min_eq_left (by omega)]
  · cases h
/-- Read off fewer bytes, it is read off all of them. -/
theorem saysF1 {m fl k0 : Nat} {wk : Bool} {b : List UInt8} {r : Exp × Nat} (h : saysF fl wk k0 (b.take m) = some r) : saysF fl wk k0 b = some r := by
    unfold saysF at h ⊢
    have tail : ∀ {k : Nat} {q : Nat × Nat}, ulebM ((b.take m).drop k) = some q → ulebM (b.drop k) = some q := fun {k q} hq => by
      rw [List.drop_take] at hq; exact uleb1 hq
    split at h
    · rename_i hf
      rw [if_pos hf]
      cases h2 : ulebM ((b.take m).drop k0) with
      | none => rw [h2] at h; cases h
      | some q =>
        rw [h2] at h
        rw [tail h2]
        dsimp only at h ⊢
        cases h3 : textR ((b.take m).drop (k0 + q.2)) with
        | none => rw [h3] at h; cases h
        | some q3 =>
          have e3 := h3
          rw [List.drop_take] at e3
          rw [h3] at h
          rw [text1 e3]
          exact h
    · rename_i hf
      rw [if_neg hf]
      split at h
      · rename_i hf
        rw [if_pos hf]
        cases h2 : ulebM ((b.take m).drop k0) with
        | none => rw [h2] at h; cases h
        | some q => rw [h2] at h; rw [tail h2]; exact h
      · rename_i hf
        rw [if_neg hf]
        split at h
        · rename_i hf
          rw [if_pos hf]
          cases h2 : ulebM ((b.take m).drop k0) with
          | none => rw [h2] at h; cases h
          | some q => rw [h2] at h; rw [tail h2]; exact h
        · rename_i hf
          rw [if_neg hf]
          split at h
          · rename_i hf
            rw [if_pos hf]
            cases h2 : ulebM ((b.take m).drop k0) with
            | none => rw [h2] at h; cases h
            | some q =>
              rw [h2] at h
              rw [tail h2]
              dsimp only at h ⊢
              cases h3 : ulebM ((b.take m).drop (k0 + q.2)) with
              | none => rw [h3] at h; cases h
              | some q3 =>
                rw [h3] at h
                rw [tail h3]
                exact h
          · cases h
theorem says1 {m : Nat} {b : List UInt8} {r : Exp × Nat} (h : saysR (b.take m) = some r) : saysR b = some r := by
  unfold saysR at h ⊢
  cases hu : ulebM (b.take m) with
  | none => rw [hu] at h; cases h
  | some p =>
    rw [hu] at h
    rw [uleb1 hu]
    exact saysF1 h
theorem saysF2 {m fl k0 : Nat} {wk : Bool} {b : List UInt8} {x : Exp} {k : Nat} (h : saysF fl wk k0 b = some (x, k)) (hk : k ≤ m) : k0 ≤ m ∧ saysF fl wk k0 (b.take m) = some (x, k) := by
    unfold saysF at h ⊢
    have tail : ∀ {j : Nat} {v q : Nat}, ulebM (b.drop j) = some (v, q) → j + q ≤ m → ulebM ((b.take m).drop j) = some (v, q) := fun {j v q} hq hj => by
      rw [List.drop_take]; exact uleb2 hq (by omega)
    split at h
    · rename_i hf
      cases h2 : ulebM (b.drop k0) with
      | none => rw [h2] at h; cases h
      | some q =>
        obtain ⟨o, k2⟩ := q
        rw [h2] at h
        dsimp only at h
        cases h3 : textR (b.drop (k0 + k2)) with
        | none => rw [h3] at h; cases h
        | some q3 =>
          obtain ⟨t, k3⟩ := q3
          rw [h3] at h
          cases h
          have e3 : textR ((b.take m).drop (k0 + k2)) = some (t, k3) := by rw [List.drop_take]; exact text2 h3 (by omega)
          refine ⟨by omega, ?_⟩
          rw [if_pos hf, tail h2 (by omega)]
          dsimp only
          rw [e3]
    · rename_i hf
      split at h
      · rename_i hf2
        cases h2 : ulebM (b.drop k0) with
        | none => rw [h2] at h; cases h
        | some q =>
          obtain ⟨o, k2⟩ := q
          rw [h2] at h
          cases h
          refine ⟨by omega, ?_⟩
          rw [if_neg hf, if_pos hf2, tail h2 (by omega)]
      · rename_i hf2
        split at h
        · rename_i hf3
          cases h2 : ulebM (b.drop k0) with
          | none => rw [h2] at h; cases h
          | some q =>
            obtain ⟨o, k2⟩ := q
            rw [h2] at h
            cases h
            refine ⟨by omega, ?_⟩
            rw [if_neg hf, if_neg hf2, if_pos hf3, tail h2 (by omega)]
        · rename_i hf3
          split at h
          · rename_i hf4
            cases h2 : ulebM (b.drop k0) with
            | none => rw [h2] at h; cases h
            | some q =>
              obtain ⟨o, k2⟩ := q
              rw [h2] at h
              dsimp only at h
              cases h3 : ulebM (b.drop (k0 + k2)) with
              | none => rw [h3] at h; cases h
              | some q3 =>
                obtain ⟨t, k3⟩ := q3
                rw [h3] at h
                cases h
                refine ⟨by omega, ?_⟩
                rw [if_neg hf, if_neg hf2, if_neg hf3, if_pos hf4, tail h2 (by omega)]
                dsimp only
                rw [tail h3 (by omega)]
          · cases h
/-- Read off all of them by so many, it is read off these. -/
theorem says2 {m : Nat} {b : List UInt8} {x : Exp} {k : Nat} (h : saysR b = some (x, k)) (hk : k ≤ m) : saysR (b.take m) = some (x, k) := by
  unfold saysR at h ⊢
  cases hu : ulebM b with
  | none => rw [hu] at h; cases h
  | some p =>
    obtain ⟨fl, k0⟩ := p
    rw [hu] at h
    obtain ⟨h1, h2⟩ := saysF2 h hk
    rw [uleb2 hu h1]
    exact h2
/-- Just so many bytes say it. -/
theorem says_just (b : List UInt8) (m : Nat) (hm : m ≤ b.length) (x : Exp) : saysR (b.take m) = some (x, m) ↔ saysR b = some (x, m) :=
  ⟨says1, fun h => says2 h (Nat.le_refl _)⟩
end Go.Proofs.YthhjdkcnkdffcaaGreat

namespace Go.Proofs.YthhjdkcnkdffcaaGreat
set_option linter.unusedSimpArgs false
set_option linter.unusedVariables false
/-- Behind the flags. -/
def saysRf1 (l : List UInt8) (fl : Nat) (s : Cu) : Exp × Bool × Cu :=
  if bareF fl = 8 then (⟨[], 3, fl / 4 % 2 == 1, 0, 0, (numR l s).1, (textRf l (numR l s).2).1⟩, !(textRf l (numR l s).2).2.bad, (textRf l (numR l s).2).2)
  else if bareF fl = 0 then (⟨[], 1, fl / 4 % 2 == 1, (numR l s).1, 0, 0, []⟩, !(numR l s).2.bad, (numR l s).2)
  else if bareF fl = 2 then (⟨[], 2, fl / 4 % 2 == 1, (numR l s).1, 0, 0, []⟩, !(numR l s).2.bad, (numR l s).2)
  else if bareF fl = 16 then (⟨[], 4, fl / 4 % 2 == 1, (numR l s).1, (numR l (numR l s).2).1, 0, []⟩, !(numR l (numR l s).2).2.bad, (numR l (numR l s).2).2)
  else (⟨[], 0, fl / 4 % 2 == 1, 0, 0, 0, []⟩, false, s)
def saysRf (l : List UInt8) : Exp × Bool × Cu := saysRf1 l (numR l ⟨0, false⟩).1 (numR l ⟨0, false⟩).2
theorem numR_some {l : List UInt8} {k n j : Nat} (h : ulebM (l.drop k) = some (n, j)) : numR l ⟨k, false⟩ = (n, ⟨k + j, false⟩) := (numR_good l k).trans (numC_some h)
theorem numR_none {l : List UInt8} {k : Nat} (h : ulebM (l.drop k) = none) : numR l ⟨k, false⟩ = (0, ⟨k, true⟩) := (numR_good l k).trans (numC_none h)
theorem textRf_some {l : List UInt8} {k j : Nat} {t : List UInt8} (h : textR (l.drop k) = some (t, j)) : textRf l ⟨k, false⟩ = (t, ⟨k + j, false⟩) := (textRf_good l k).trans (textC_some h)
theorem textRf_none {l : List UInt8} {k : Nat} (h : textR (l.drop k) = none) : textRf l ⟨k, false⟩ = ([], ⟨k, true⟩) := (textRf_good l k).trans (textC_none h)
theorem saysRf1_bad {l : List UInt8} {fl : Nat} {s : Cu} (h : s.bad = true) : (saysRf1 l fl s).2.1 = false := by
  unfold saysRf1
  split
  · simp [textRf_bad (numR_bad h)]
  · split
    · simp [numR_bad h]
    · split
      · simp [numR_bad h]
      · split
        · simp [numR_bad (numR_bad h)]
        · rfl
theorem saysRf_R (l : List UInt8) :
    match saysR l with
    | some (x, n) => saysRf l = (x, true, ⟨n, false⟩)
    | none => (saysRf l).2.1 = false := by
  unfold saysR saysRf
  cases h0 : ulebM l with
  | none =>
    rw [numR_none (k := 0) (by rw [List.drop_zero]; exact h0)]
    exact saysRf1_bad rfl
  | some q =>
    obtain ⟨fl, k⟩ := q
    rw [numR_some (k := 0) (by rw [List.drop_zero]; exact h0), Nat.zero_add]
    dsimp only
    unfold saysF saysRf1
    by_cases h8 : bareF fl = 8
    · simp only [if_pos h8]
      cases h1 : ulebM (l.drop k) with
      | none => simp [numR_none h1, textRf_bad]
      | some q1 =>
        obtain ⟨o, k2⟩ := q1
        rw [numR_some h1]
        dsimp only
        cases h2 : textR (l.drop (k + k2)) with
        | none => simp [textRf_none h2]
        | some q2 =>
          obtain ⟨t, k3⟩ := q2
          simp [textRf_some h2]
    · simp only [if_neg h8]
      by_cases h00 : bareF fl = 0
      · simp only [if_pos h00]
        cases h1 : ulebM (l.drop k) with
        | none => simp [numR_none h1]
        | some q1 => simp [numR_some h1]
      · simp only [if_neg h00]
        by_cases h22 : bareF fl = 2
        · simp only [if_pos h22]
          cases h1 : ulebM (l.drop k) with
          | none => simp [numR_none h1]
          | some q1 => simp [numR_some h1]
        · simp only [if_neg h22]
          by_cases h16 : bareF fl = 16
          · simp only [if_pos h16]
            cases h1 : ulebM (l.drop k) with
            | none => simp [numR_none h1, numR_bad]
            | some q1 =>
              obtain ⟨v, k2⟩ := q1
              rw [numR_some h1]
              dsimp only
              cases h2 : ulebM (l.drop (k + k2)) with
              | none => simp [numR_none h2]
              | some q2 =>
                obtain ⟨t, k3⟩ := q2
                simp [numR_some h2]
          · simp only [if_neg h16]
/-- Do just these bytes say it? -/
theorem saysRf_just (l : List UInt8) : ((saysRf l).2.1 && (saysRf l).2.2.at_ == l.length) = true ↔ ∃ x, saysR l = some (x, l.length) := by
  have h := saysRf_R l
  cases hr : saysR l with
  | none =>
    rw [hr] at h
    simp [show (saysRf l).2.1 = false from h]
  | some q =>
    obtain ⟨x, n⟩ := q
    rw [hr] at h
    simp [show saysRf l = (x, true, ⟨n, false⟩) from h]
end Go.Proofs.YthhjdkcnkdffcaaGreat
