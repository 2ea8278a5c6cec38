/- The reference's numbers of groups, and its list of places: the walks. -/
import Derived.Test.YthhjdkcnkdffcaaGreatZDown
import Derived.Test.YthhjdkcnkdffcaaGreatZLebM
namespace Go.Proofs.YthhjdkcnkdffcaaGreat
set_option linter.unusedSimpArgs false
set_option linter.unusedVariables false
open Go.RowKit
theorem sizeF_end (f i : Nat) : sizeF f [] i = 0 := by cases f <;> rfl
theorem drop_cons' {l : List UInt8} {j : Nat} {x : UInt8} (hx : l[j]? = some x) : l.drop j = x :: l.drop (j + 1) := by
  obtain ⟨h1, rfl⟩ := List.getElem?_eq_some_iff.1 hx
  exact List.drop_eq_getElem_cons h1
set_option maxHeartbeats 1000000 in
theorem ref_size (w : World) (p : Option Addr) (n cap : Nat) (l : List UInt8) (h : BS w (.slice p n cap) l) :
    Calls Tryz.prog 85 #[.slice p n cap] w fun e w' => e = .returned (.int .i64 (sizeM l : Nat)) ∧ w = w' := by
  obtain rfl := h.len
  have hcp := h.cap
  have H := hid h
  clear h
  go_enter Tryz.func85, Tryz.ntmps85
  go_wp2_with fail
  go_loop [3] (fun i => ∃ j : Nat, j ≤ 10 ∧ j ≤ l.length ∧ i = .int .i64 j ∧ Hid (sizeF (10 - j) (l.drop j) j = sizeM l)) (fun i => 10 - (intOf i).toNat)
  case atStart => exact ⟨0, by omega, Nat.zero_le _, rfl, hid rfl⟩
  case round =>
    obtain ⟨j, hj, hjl, rfl, hs⟩ := hrel
    by_cases hlt : j < l.length
    · by_cases h10 : j < 10
      · obtain ⟨x, hx⟩ : ∃ x, l[j]? = some x := ⟨l[j], List.getElem?_eq_getElem hlt⟩
        obtain ⟨b, off, rfl, hcell⟩ := H.out.at (by omega)
        have hcl := hcell j x hx
        have hs2 : (if x.toNat < 128 then j + 1 else sizeF (10 - (j + 1)) (l.drop (j + 1)) (j + 1)) = sizeM l := by
          have h1 := hs.out
          rw [drop_cons' hx, show 10 - j = (10 - (j + 1)) + 1 by omega, sizeF] at h1
          exact h1
        have hd1 : decide ((j : Int) < (l.length : Int)) = true := by simp; omega
        have hd2 : decide ((j : Int) < 10) = true := by simp; omega
        clear hcell hx hs
        by_cases hg : x.toNat < 128
        · rw [if_pos hg] at hs2
          have Hs := hid hs2
          have hd3 : decide ((x.toNat : Int) < 128) = true := by simp; omega
          clear hs2 hg
          go_wp2
          go_ret
          rw [← Hs.out]
          exact ⟨by simp, rfl⟩
        · rw [if_neg hg] at hs2
          have Hs := hid hs2
          have hd3 : decide ((x.toNat : Int) < 128) = false := by simp; omega
          clear hs2 hg
          go_wp2
          go_round
          case rel => exact ⟨j + 1, by omega, by omega, by go_num, Hs⟩
          case measure => simp [intOf]; omega
      · have hz : sizeM l = 0 := by rw [← hs.out, show 10 - j = 0 by omega]; rfl
        have Hz := hid hz
        have hd1 : decide ((j : Int) < (l.length : Int)) = true := by simp; omega
        have hd2 : decide ((j : Int) < 10) = false := by simp; omega
        clear hz
        go_wp2
        go_ret
        rw [Hz.out]
        exact ⟨rfl, rfl⟩
    · have hz : sizeM l = 0 := by rw [← hs.out, show j = l.length by omega, List.drop_length, sizeF_end]
      have Hz := hid hz
      have hd1 : decide ((j : Int) < (l.length : Int)) = false := by simp; omega
      clear hz
      go_wp2
      go_ret
      rw [Hz.out]
      exact ⟨rfl, rfl⟩
set_option maxHeartbeats 1000000 in
/-- The reference's has at a list of places. -/
theorem ref_has (w : World) (base : Nat) (e : TypeId) (v : Value) (l : List Int) (x : Int) (h : w.ownsRow base e 1 v l.length (intCells l)) (hl : l.length ≤ 140737488355328) :
    Calls Tryz.prog 50 #[v, .int .i64 x] w fun ev w' => ev = .returned (.bool (l.contains x)) ∧ w = w' := by
  obtain ⟨a, cap, rfl⟩ := ownsRow_form h
  have H := hid h
  clear h
  obtain ⟨R, hR⟩ : ∃ R, R = l.contains x := ⟨_, rfl⟩
  rw [← hR]
  have HR := hid hR
  clear hR
  go_enter Tryz.func50, Tryz.ntmps50
  go_wp2_with fail
  go_loop [5] (fun i => ∃ j : Nat, j ≤ l.length ∧ i = .int .i64 j ∧ Hid ((l.drop j).contains x = R)) (fun i => l.length - (intOf i).toNat)
  case atStart => exact ⟨0, Nat.zero_le _, rfl, hid HR.out.symm⟩
  case round =>
    obtain ⟨j, hj, rfl, hs⟩ := hrel
    by_cases hlt : j < l.length
    · obtain ⟨y, hy⟩ : ∃ y, l[j]? = some y := ⟨l[j], List.getElem?_eq_getElem hlt⟩
      obtain ⟨g, hg⟩ : ∃ g, a = some ⟨g, 0, none⟩ := by
        rcases H.out.2 with ⟨_, h1⟩ | ⟨g, cap', cur, h1, _⟩
        · omega
        · cases h1; exact ⟨g, rfl⟩
      subst hg
      have hcl := World.ownsRow.cellAt H.out j (by omega)
      have hy2 : (intCells l)[j]? = some (.int .i64 y) := by simp [intCells, hy]
      rw [hy2] at hcl
      have hs2 : (if y = x then true else (l.drop (j + 1)).contains x) = R := by
        have h1 := hs.out
        obtain ⟨h2, rfl⟩ := List.getElem?_eq_some_iff.1 hy
        rw [List.drop_eq_getElem_cons h2, List.contains_cons] at h1
        rw [← h1]
        by_cases hq : l[j] = x
        · rw [if_pos hq]; simp [hq]
        · rw [if_neg hq]
          have : (x == l[j]) = false := by rw [beq_eq_false_iff_ne]; exact fun e => hq e.symm
          rw [this, Bool.false_or]
      have hd1 : decide ((j : Int) < (l.length : Int)) = true := by simp; omega
      clear hy hy2 hs
      by_cases hq : y = x
      · rw [if_pos hq] at hs2
        have Hs := hid hs2
        have hq2 : (y == x) = true := by rw [beq_iff_eq]; exact hq
        clear hs2 hq
        go_wp2
        go_ret
        rw [← Hs.out]
        exact ⟨rfl, rfl⟩
      · rw [if_neg hq] at hs2
        have Hs := hid hs2
        have hq2 : (y == x) = false := by rw [beq_eq_false_iff_ne]; exact hq
        clear hs2 hq
        go_wp2
        go_round
        case rel => exact ⟨j + 1, by omega, by go_num, Hs⟩
        case measure => simp [intOf]; omega
    · have hz : R = false := by rw [← hs.out, show j = l.length by omega, List.drop_length]; rfl
      have Hz := hid hz
      have hd1 : decide ((j : Int) < (l.length : Int)) = false := by simp; omega
      clear hz
      go_wp2
      go_ret
      rw [Hz.out]
      exact ⟨rfl, rfl⟩
theorem valM_drop (t : List UInt8) : ∀ j : Nat, 128 ^ j * valM (t.drop j) ≤ valM t := by
  induction t with
  | nil => intro j; simp [valM]
  | cons x r ih =>
    intro j
    cases j with
    | zero => simp
    | succ j =>
      rw [List.drop_succ_cons]
      have := ih j
      simp only [valM]
      rw [Nat.pow_succ, Nat.mul_comm (128 ^ j) 128, Nat.mul_assoc]
      omega
/-- As the reference has it: the number, and how many bytes it has, or 0 and 0. -/
def ulebR (l : List UInt8) : Nat × Nat := (ulebM l).getD (0, 0)
theorem ulebR_big {l : List UInt8} {m : Nat} (hm : m < sizeM l) (h : 2 ^ 57 ≤ valM ((l.take (sizeM l)).drop (m + 1))) : ulebR l = (0, 0) := by
  have h1 := valM_drop (l.take (sizeM l)) (m + 1)
  have h2 : 128 ≤ 128 ^ (m + 1) := by
    rw [Nat.pow_succ]
    have := Nat.pow_pos (n := m) (show 0 < 128 by omega)
    omega
  have h3 := Nat.mul_le_mul h2 h
  unfold ulebR
  rw [ulebM_size, if_neg (by omega), if_neg (by omega)]
  rfl
theorem ulebR_end {l : List UInt8} (h : valM (l.take (sizeM l)) < 2 ^ 64) : ulebR l = (valM (l.take (sizeM l)), sizeM l) := by
  unfold ulebR
  rw [ulebM_size]
  by_cases h0 : sizeM l = 0
  · rw [if_pos h0, h0]; rfl
  · rw [if_neg h0, if_pos h]; rfl
theorem rem128 : ∀ x : Fin 256, Int.tmod (x.val : Int) 128 = ((x.val % 128 : Nat) : Int) := by decide +kernel
set_option maxHeartbeats 1000000 in
theorem ref_uleb (w : World) (p : Option Addr) (n cap : Nat) (l : List UInt8) (h : BS w (.slice p n cap) l) :
    Calls Tryz.prog 82 #[.slice p n cap] w fun e w' => e = .returned (.tuple #[.int .u64 ((ulebR l).1 : Nat), .int .i64 ((ulebR l).2 : Nat)]) ∧ w = w' := by
  obtain rfl := h.len
  have hcp := h.cap
  have H := hid h
  clear h
  have hsz := sizeM_le l
  obtain ⟨s, hs⟩ : ∃ s, s = sizeM l := ⟨_, rfl⟩
  have hS := ref_size w p l.length cap l H.out
  have hbig : ∀ m, m < s → 2 ^ 57 ≤ valM ((l.take s).drop (m + 1)) → ulebR l = (0, 0) := fun m h1 h2 => by rw [hs] at h1 h2; exact ulebR_big h1 h2
  have hend : valM (l.take s) < 2 ^ 64 → ulebR l = (valM (l.take s), s) := fun h1 => by rw [hs] at h1 ⊢; exact ulebR_end h1
  rw [← hs] at hsz hS
  obtain ⟨R, hR⟩ : ∃ R, R = ulebR l := ⟨_, rfl⟩
  simp only [← hR] at hbig hend ⊢
  have HS := hid (And.intro hS (And.intro hbig hend))
  clear hS hbig hend hs hR
  go_enter Tryz.func82, Tryz.ntmps82
  go_wp2_with fail
  refine HS.out.1.mono ?_
  rintro e w' ⟨rfl, rfl⟩
  have hw0 : IntKind.i64.wrap ((s : Int) - 1) = (s : Int) - 1 := IntWalk.i64_in _ (by omega)
  go_wp2_with fail
  go_loop [4, 6] (fun n i => ∃ j : Nat, j ≤ s ∧ i = .int .i64 ((j : Int) - 1) ∧ ∃ v : Nat, n = .int .u64 (v : Int) ∧ v < 2 ^ 64 ∧ Hid (v = valM ((l.take s).drop j))) (fun n i => (intOf i + 1).toNat)
  case atStart => exact ⟨s, Nat.le_refl _, rfl, 0, rfl, by omega, hid (by rw [List.drop_take, Nat.sub_self]; rfl)⟩
  case round =>
    obtain ⟨j, hj, rfl, v, rfl, hv, hval⟩ := hrel
    cases j with
    | zero =>
      have he := HS.out.2.2
      have hvl := hval.out
      rw [List.drop_zero] at hvl
      rw [← hvl] at he
      have He := hid (he hv)
      clear he hvl hval
      go_wp2
      go_ret2
      rw [He.out]
      exact ⟨rfl, rfl⟩
    | succ m =>
      have hc : ((m + 1 : Nat) : Int) - 1 = (m : Int) := by omega
      rw [hc]
      obtain ⟨x, hx⟩ : ∃ x, l[m]? = some x := ⟨l[m]'(by omega), List.getElem?_eq_getElem (by omega)⟩
      obtain ⟨b, off, rfl, hcell⟩ := H.out.at (by omega)
      have hcl := hcell m x hx
      by_cases hg : 2 ^ 57 ≤ v
      · have hz := HS.out.2.1 m (by omega) (by rw [← hval.out]; exact hg)
        have Hz := hid hz
        have hd1 : decide ((144115188075855872 : Int) ≤ (v : Int)) = true := by simp; omega
        clear hz hx hcell hval hg
        go_wp2
        go_ret2
        rw [Hz.out]
        exact ⟨rfl, rfl⟩
      · have hd1 : decide ((144115188075855872 : Int) ≤ (v : Int)) = false := by simp; omega
        have hr := rem128 ⟨x.toNat, x.toNat_lt⟩
        have hgl := grp_lt x
        have hval2 : v * 128 + grp x = valM ((l.take s).drop m) := by
          have ht : (l.take s)[m]? = some x := by rw [List.getElem?_take, if_pos (by omega)]; exact hx
          rw [drop_cons' ht, valM, ← hval.out]
          omega
        have Hv := hid hval2
        have hwm : IntKind.u64.wrap ((v : Int) * 128) = ((v * 128 : Nat) : Int) := by rw [show (v : Int) * 128 = ((v * 128 : Nat) : Int) by omega]; exact IntWalk.u64_in _ (by omega)
        have hwa : IntKind.u64.wrap ((v : Int) * 128 + ((grp x : Nat) : Int)) = ((v * 128 + grp x : Nat) : Int) := by rw [show (v : Int) * 128 + ((grp x : Nat) : Int) = ((v * 128 + grp x : Nat) : Int) by omega]; exact IntWalk.u64_in _ (by omega)
        have hwg : IntKind.u64.wrap ((grp x : Nat) : Int) = ((grp x : Nat) : Int) := IntWalk.u64_in _ (by omega)
        have hgx : x.toNat % 128 = grp x := rfl
        have Hg := hid (show v < 2 ^ 57 by omega)
        clear hx hcell hval hval2 hg
        go_wp2
        go_round
        case rel => exact ⟨m, by omega, by go_num, v * 128 + grp x, by first | rfl | (simp [hgx]; done) | (rw [hgx] at *; simp [*]; done), by have := Hg.out; omega, Hv⟩
        case measure => simp [intOf]
end Go.Proofs.YthhjdkcnkdffcaaGreat
