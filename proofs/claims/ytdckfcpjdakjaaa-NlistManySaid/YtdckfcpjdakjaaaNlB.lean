/- The walks of package nlist: an entry as it stands, and what it tells. -/
import Derived.Test.YtdckfcpjdakjaaaNlA
namespace Go.Proofs.Ytdckfcpjdakjaaa
set_option linter.unusedSimpArgs false
set_option linter.unusedVariables false
open Go.RowKit

theorem leNat_one {l : List UInt8} {k : Nat} (hk : k < l.length) : leNat ((l.drop k).take 1) = (l[k]?.getD 0).toNat := by
  have e : (l.drop k).take 1 = [l[k]] := by
    rw [List.take_one, List.head?_drop, List.getElem?_eq_getElem hk]; rfl
  rw [e]; simp [leNat, hk]

theorem grownBy_trans {a b c : World} {r : Option Nat} (h : a.grownBy b r) (k : b.grownBy c r) : a.grownBy c r :=
  ⟨k.os.trans h.os, k.tape.trans h.tape, k.output.trans h.output, Nat.le_trans h.size k.size, fun i hi hr => (k.block i (Nat.lt_of_lt_of_le hi h.size) hr).trans (h.block i hi hr)⟩

theorem Below.grownBy {B : Nat} {a b c : World} (h : Below B a b) {r : Nat} (k : b.grownBy c (some r)) (hr : B ≤ r) (hb : B ≤ b.heap.size) : Below B a c :=
  h.grown k hb (fun i hi => by cases hi; exact hr)

set_option maxHeartbeats 1000000 in
/-- An entry as it stands. -/
theorem nl_read (w : World) (p : Option Addr) (n cap : Nat) (l : List UInt8) (h : BS w (.slice p n cap) l) (hn : l.length = 16) :
    Calls Try.prog 19 #[.slice p n cap] w fun e w' =>
      e = .returned (.agg #[.int .u64 (leNat (l.take 4)), .int .i64 (l[4]?.getD 0).toNat, .int .i64 (l[5]?.getD 0).toNat, .int .u64 (leNat ((l.drop 6).take 2)), .int .u64 (leNat ((l.drop 8).take 8))]) ∧ Below w.heap.size w w' := by
  have h1 : BS (w.alloc (.cells #[.int .u64 0, .int .i64 0, .int .i64 0, .int .u64 0, .int .u64 0] 49)) (.slice p n cap) l := h.below ((Below.refl _ _).alloc (Nat.le_refl _) _)
  have H := hid (And.intro h1 hn)
  clear h h1 hn
  go_enter Try.func19, Try.ntmps19
  go_wp2_with fail
  refine (cur_new _ p n cap l false H.out.1).mono ?_
  rintro e w1 ⟨c, rfl, hc, hcur, hb⟩
  have hc' : w.heap.size + 1 ≤ c := by simpa using hc
  have hbk : w1.heap[w.heap.size]? = some (.cells #[.int .u64 0, .int .i64 0, .int .i64 0, .int .u64 0, .int .u64 0] 49) :=
    (hb.block w.heap.size (by simp)).trans (heap_alloc_new w _)
  have hbw : Below w.heap.size w w1 := ((Below.refl _ _).alloc (Nat.le_refl _) _).trans (hb.mono (by simp))
  have hsz1 : w.heap.size + 1 ≤ w1.heap.size := by have := hb.size; simpa using this
  have H1 := hid (And.intro hcur (And.intro hbk hbw))
  clear hc hcur hb hbk hbw
  go_wp2_with fail
  refine (cur_number_ok c _ l 0 4 _ (by omega) (by rfl) H1.out.1 (by rw [H.out.2]; omega)).mono ?_
  rintro e w2 ⟨rfl, hcur2, hg2⟩
  have H2 := hid (And.intro hcur2 hg2)
  clear hcur2 hg2
  go_wp2_with fail
  refine (cur_number_ok c _ l 4 1 _ (by omega) (by rfl) H2.out.1 (by rw [H.out.2]; omega)).mono ?_
  rintro e w3 ⟨rfl, hcur3, hg3⟩
  have H3 := hid (And.intro hcur3 (grownBy_trans H2.out.2 hg3))
  clear hcur3 hg3
  go_wp2_with fail
  refine (cur_number_ok c _ l 5 1 _ (by omega) (by rfl) H3.out.1 (by rw [H.out.2]; omega)).mono ?_
  rintro e w4 ⟨rfl, hcur4, hg4⟩
  have H4 := hid (And.intro hcur4 (grownBy_trans H3.out.2 hg4))
  clear hcur4 hg4
  go_wp2_with fail
  refine (cur_number_ok c _ l 6 2 _ (by omega) (by rfl) H4.out.1 (by rw [H.out.2]; omega)).mono ?_
  rintro e w5 ⟨rfl, hcur5, hg5⟩
  have H5 := hid (And.intro hcur5 (grownBy_trans H4.out.2 hg5))
  clear hcur5 hg5
  go_wp2_with fail
  refine (cur_number_ok c _ l 8 8 _ (by omega) (by rfl) H5.out.1 (by rw [H.out.2]; omega)).mono ?_
  rintro e w6 ⟨rfl, hcur6, hg6⟩
  have hg := grownBy_trans H5.out.2 hg6
  have hbk := (hg.block w.heap.size (by omega) (by simp; omega)).trans H1.out.2.1
  have hbw : Below w.heap.size w w6 := Below.grownBy H1.out.2.2 hg (by omega) (by omega)
  have hc0 := cell_of_row _ _ 0 _ _ _ hbk
  have hc1 := cell_of_row _ _ 1 _ _ _ hbk
  have hc2 := cell_of_row _ _ 2 _ _ _ hbk
  have hc3 := cell_of_row _ _ 3 _ _ _ hbk
  have hc4 := cell_of_row _ _ 4 _ _ _ hbk
  have hf := fun i => frozen_of_row _ _ i _ _ hbk
  have e4 : leNat ((l.drop 4).take 1) = (l[4]?.getD 0).toNat := leNat_one (by rw [H.out.2]; omega)
  have e5 : leNat ((l.drop 5).take 1) = (l[5]?.getD 0).toNat := leNat_one (by rw [H.out.2]; omega)
  rw [e4, e5]
  have b4 : ((l[4]?.getD 0).toNat : Int) ≤ 255 := by have := (l[4]?.getD 0).toNat_lt; omega
  have b5 : ((l[5]?.getD 0).toNat : Int) ≤ 255 := by have := (l[5]?.getD 0).toNat_lt; omega
  have H6 := hid hbw
  clear hcur6 hg6 hg hbk hbw e4 e5
  go_wp2
  refine bodyPost_ret (v := .agg #[.int .u64 (leNat (l.take 4)), .int .i64 (l[4]?.getD 0).toNat, .int .i64 (l[5]?.getD 0).toNat, .int .u64 (leNat ((l.drop 6).take 2)), .int .u64 (leNat ((l.drop 8).take 8))]) (by simp [results, Try.results19, go_sem, hc0, hc1, hc2, hc3, hc4]; exact ⟨IntWalk.wrap64_in _ (by omega), IntWalk.wrap64_in _ (by omega)⟩) rfl ⟨rfl, ?_⟩
  have hbw := H6.out
  go_grown

theorem and_128 (d : Nat) (h : d < 2 ^ 16) : (bits BinOp.and IntKind.u64 (d : Int) 128 != 0) = (d / 128 % 2 == 1) := by
  rw [show (128 : Int) = ((128 : Nat) : Int) from rfl, and_u64 d 128 (by omega) (by omega)]
  have e : d &&& 128 = d / 128 % 2 * 128 := by
    have h1 : (128 : Nat) = 1 <<< 7 := rfl
    apply Nat.eq_of_testBit_eq
    intro i
    rw [Nat.testBit_and, show (128 : Nat) = 2 ^ 7 from rfl, Nat.testBit_two_pow, Nat.mul_comm, Nat.testBit_two_pow_mul]
    by_cases hi : 7 = i
    · subst hi
      simp [Nat.testBit_eq_decide_div_mod_eq]
    · simp [hi]
      intro h7
      have hlt : d / 2 ^ 7 % 2 < 2 ^ (i - 7) := Nat.lt_of_lt_of_le (Nat.mod_lt _ (by omega)) (by
        have : 1 ≤ i - 7 := by omega
        calc 2 = 2 ^ 1 := rfl
          _ ≤ 2 ^ (i - 7) := Nat.pow_le_pow_right (by omega) this)
      exact Nat.testBit_lt_two_pow hlt
  rw [e]
  rcases Nat.mod_two_eq_zero_or_one (d / 128) with h0 | h0 <;> simp [h0]

theorem kind_not : ∀ k : Fin 256, k.val ≠ 15 → k.val ≠ 3 → (bits BinOp.andNot IntKind.i64 (k.val : Int) 14 == 1) = true →
    (bits BinOp.and IntKind.i64 (k.val : Int) 14 == 14) = false ∧ (bits BinOp.and IntKind.i64 (k.val : Int) 14 == 2) = false := by decide +kernel

set_option maxHeartbeats 1000000 in
/-- What an entry tells, of the kinds that tell nothing. -/
theorem nl_told_no (w : World) (nm k s d a : Nat) (sections : Int) (hk : k < 256) (h15 : k ≠ 15) (h3 : k ≠ 3) :
    Calls Try.prog 20 #[.agg #[.int .u64 nm, .int .i64 k, .int .i64 s, .int .u64 d, .int .u64 a], .int .i64 sections] w fun e w' =>
      e = .returned (.tuple #[.agg Sym.zero.cells.toArray, .bool false, .int .i64 0]) ∧ Below w.heap.size w w' := by
  have hkn := kind_not ⟨k, hk⟩ h15 h3
  simp only at hkn
  by_cases hx : (bits BinOp.andNot IntKind.i64 (k : Int) 14 == 1) = true
  · obtain ⟨e1, e2⟩ := hkn hx
    clear hkn
    go_enter Try.func20, Try.ntmps20
    go_wp2
    go_region
    go_wp2
    refine bodyPost_ret (v := .tuple #[.agg Sym.zero.cells.toArray, .bool false, .int .i64 0]) (by simp [results, Try.results20, go_sem, Sym.cells, Sym.zero, mkS]) rfl ⟨rfl, ?_⟩
    go_grown
  · have hx' : (bits BinOp.andNot IntKind.i64 (k : Int) 14 == 1) = false := by simpa using hx
    clear hkn hx
    go_enter Try.func20, Try.ntmps20
    go_wp2
    go_region
    go_wp2
    refine bodyPost_ret (v := .tuple #[.agg Sym.zero.cells.toArray, .bool false, .int .i64 0]) (by simp [results, Try.results20, go_sem, Sym.cells, Sym.zero, mkS]) rfl ⟨rfl, ?_⟩
    go_grown

set_option maxHeartbeats 1000000 in
theorem nl_told_3 (w : World) (nm s d a : Nat) (sections : Int) (hd : d < 2 ^ 16) :
    Calls Try.prog 20 #[.agg #[.int .u64 nm, .int .i64 3, .int .i64 s, .int .u64 d, .int .u64 a], .int .i64 sections] w fun e w' =>
      e = .returned (.tuple #[.agg (Sym.mk [] 0 a (d / 128 % 2 == 1)).cells.toArray, .bool true, .int .i64 0]) ∧ Below w.heap.size w w' := by
  go_enter Try.func20, Try.ntmps20
  go_wp2
  go_region
  go_wp2
  refine bodyPost_ret (v := .tuple #[.agg (Sym.mk [] 0 a (d / 128 % 2 == 1)).cells.toArray, .bool true, .int .i64 0]) (by simp [results, Try.results20, go_sem, Sym.cells, mkS, and_128 d hd]) rfl ⟨rfl, ?_⟩
  go_grown

set_option maxHeartbeats 1000000 in
theorem nl_told_15 (w : World) (nm s d a : Nat) (sections : Int) (hd : d < 2 ^ 16) (hs : s < 256) :
    Calls Try.prog 20 #[.agg #[.int .u64 nm, .int .i64 15, .int .i64 s, .int .u64 d, .int .u64 a], .int .i64 sections] w fun e w' =>
      e = .returned (.tuple #[.agg (toldM 15 s d a sections).1.cells.toArray, .bool true, .int .i64 (toldM 15 s d a sections).2.2]) ∧ Below w.heap.size w w' := by
  by_cases h1 : (s : Int) < 1
  · have hm : toldM 15 s d a sections = (Sym.zero, true, 13) := by unfold toldM; rw [if_pos rfl, if_pos (Or.inl h1)]
    rw [hm]
    clear hm
    go_enter Try.func20, Try.ntmps20
    go_wp2
    go_region
    go_wp2
    refine bodyPost_ret (v := .tuple #[.agg Sym.zero.cells.toArray, .bool true, .int .i64 13]) (by simp [results, Try.results20, go_sem, Sym.cells, Sym.zero, mkS]) rfl ⟨rfl, ?_⟩
    go_grown
  · by_cases h2 : sections < (s : Int)
    · have hm : toldM 15 s d a sections = (Sym.zero, true, 13) := by unfold toldM; rw [if_pos rfl, if_pos (Or.inr h2)]
      rw [hm]
      clear hm
      go_enter Try.func20, Try.ntmps20
      go_wp2
      go_region
      go_wp2
      refine bodyPost_ret (v := .tuple #[.agg Sym.zero.cells.toArray, .bool true, .int .i64 13]) (by simp [results, Try.results20, go_sem, Sym.cells, Sym.zero, mkS]) rfl ⟨rfl, ?_⟩
      go_grown
    · have hm : toldM 15 s d a sections = (Sym.mk [] s a (d / 128 % 2 == 1), true, 0) := by unfold toldM; rw [if_pos rfl, if_neg (by omega)]
      rw [hm]
      clear hm
      go_enter Try.func20, Try.ntmps20
      go_wp2
      go_region
      go_wp2
      refine bodyPost_ret (v := .tuple #[.agg (Sym.mk [] s a (d / 128 % 2 == 1)).cells.toArray, .bool true, .int .i64 0]) (by simp [results, Try.results20, go_sem, Sym.cells, mkS, and_128 d hd]) rfl ⟨rfl, ?_⟩
      go_grown

/-- What an entry tells. -/
theorem nl_told (w : World) (nm k s d a : Nat) (sections : Int) (hk : k < 256) (hd : d < 2 ^ 16) (hs : s < 256) :
    Calls Try.prog 20 #[.agg #[.int .u64 nm, .int .i64 k, .int .i64 s, .int .u64 d, .int .u64 a], .int .i64 sections] w fun e w' =>
      e = .returned (.tuple #[.agg (toldM k s d a sections).1.cells.toArray, .bool (toldM k s d a sections).2.1, .int .i64 (toldM k s d a sections).2.2]) ∧ Below w.heap.size w w' := by
  by_cases h15 : k = 15
  · subst h15
    have e : (toldM 15 s d a sections).2.1 = true := by unfold toldM; rw [if_pos rfl]; split <;> rfl
    rw [e]
    exact nl_told_15 w nm s d a sections hd hs
  · by_cases h3 : k = 3
    · subst h3
      exact nl_told_3 w nm s d a sections hd
    · have e : toldM k s d a sections = (Sym.zero, false, 0) := by unfold toldM; rw [if_neg h15, if_neg h3]
      rw [e]
      exact nl_told_no w nm k s d a sections hk h15 h3

end Go.Proofs.Ytdckfcpjdakjaaa
