/- The walks of nlist.put, and of the reference's Low and Entry. -/
import Derived.Test.YtdckfcpjdakjaaaGrew
import Derived.Test.YtdckfcpjdakjaaaMakeM
import Derived.Test.YtdckfcpjdakjaaaCur
namespace Go.Proofs.Ytdckfcpjdakjaaa
set_option linter.unusedSimpArgs false
set_option linter.unusedVariables false
open Go.RowKit

theorem Try.infoByte : (Try.prog.info? 5).map (fun i => (i.zero, i.size, i.bytes)) = some (some (.int .u8 0), 1, 1) := by kernel_rfl
theorem un_bsE : Try.prog.underlying 23 = some (.slice 5) := by kernel_rfl
theorem u8row : ∃ i, U8Row Try.prog 23 5 i := by
  obtain ⟨i0, hi, hz0, hz1, hz2⟩ := info_parts Try.infoByte
  exact ⟨i0, un_bsE, hi, hz0, hz1, hz2⟩

theorem put_byte (n k : Nat) : ((n : Int) / 2 ^ (8 * k) % 256) = (((UInt8.ofNat (n / 256 ^ k % 256)).toNat : Nat) : Int) := by
  have e : (256 : Nat) ^ k = 2 ^ (8 * k) := by rw [Nat.pow_mul]
  have e2 : (n : Int) / 2 ^ (8 * k) % 256 = ((n / 2 ^ (8 * k) % 256 : Nat) : Int) := by simp
  rw [e2, e]
  simp

/-- One byte that was just laid, as what is appended. -/
theorem Src.byte {P : Program} (w : World) {tx e' t : TypeId} (hk : P.underlying tx = some (.slice e')) (x : Int) (y : UInt8) (hx : x = (y.toNat : Int)) (m : Nat × Nat) :
    Src P 1 tx (.slice (some ⟨w.heap.size, 0, none⟩) 1 1) [y].length (u8s [y]) (w.alloc (.cells #[.int .u8 x] t m)) := by
  subst hx
  exact Src.one w hk _ rfl m

set_option maxHeartbeats 400000 in
theorem nl_put (w : World) (base : Nat) (v : Value) (xs : List UInt8) (n size : Nat) (m : Int) (hm : m = size) (hs : size ≤ 8) (hn : n < 2 ^ 64)
    (hown : OB w base 5 v xs) (hlen : xs.length + size ≤ 140737488355328) (hbase : base ≤ w.heap.size) :
    Calls Try.prog 28 #[v, .int .u64 n, .int .i64 m] w fun e w' => ∃ v', e = .returned v' ∧ OB w' base 5 v' (xs ++ leB n size) ∧ Grew w w' v v' := by
  subst hm
  obtain ⟨i, R⟩ := u8row
  have H := hid (And.intro R hown)
  clear R hown
  go_enter Try.func28, Try.ntmps28
  go_wp2
  go_loopw [0, 9] (fun b i wr => ∃ k : Nat, k ≤ size ∧ i = .int .i64 k ∧ OB wr base 5 b (xs ++ leB n k) ∧ Grew w wr v b) (fun _ i _ => size - (intOf i).toNat)
  case atStart => exact ⟨0, Nat.zero_le _, rfl, by rw [leB, List.append_nil]; exact H.out.2, Grew.refl _ _⟩
  case round =>
    obtain ⟨k, hk, rfl, hown, hgr⟩ := hrel
    have Hr := hid (And.intro hown hgr)
    have hz := hgr.size
    clear hown hgr
    by_cases hlt : k < size
    · go_wp2_with (at_builtin; refine wpList_bytes H.out.1 _ rfl _ _ _ rfl base _ (xs ++ leB n k) rfl (Hr.out.1.below ((Below.refl _ _).alloc (Nat.le_refl _) _)) _ [UInt8.ofNat (n / 256 ^ k % 256)] rfl (Src.byte wr un_bsE _ _ (put_byte n k) _) ?c3 ?c4 ?_)
      case c3 => simp [leB_length]; omega
      case c4 => simp; omega
      intro v' w1 hown1 hgr1
      have H1 := hid (And.intro hown1 hgr1)
      clear hown1 hgr1
      go_wp2
      refine ⟨⟨k + 1, by omega, by go_num, ?_, ?_⟩, by simp [intOf]; omega⟩
      · rw [leB_snoc]; exact H1.out.1
      · exact Hr.out.2.trans (Grew.under ((Below.refl _ _).alloc (Nat.le_refl _) _) H1.out.2)
    · go_wp2
      go_ret
      obtain rfl : k = size := by omega
      exact ⟨_, rfl, Hr.out.1, Hr.out.2⟩

theorem low_byte (y : Nat) : ((y : Int) % 256) = (((UInt8.ofNat (y % 256)).toNat : Nat) : Int) := by simp

set_option maxHeartbeats 400000 in
theorem ref_low (w : World) (n size : Nat) (m : Int) (hm : m = size) (hs : size ≤ 8) (hn : n < 2 ^ 64) :
    Calls Try.prog 29 #[.int .u64 n, .int .i64 m] w fun e w' => ∃ v', e = .returned v' ∧ OB w' w.heap.size 5 v' (leB n size) ∧ Below w.heap.size w w' := by
  subst hm
  obtain ⟨i, R⟩ := u8row
  have H := hid R
  have hdiv : ∀ k : Nat, n / 256 ^ k < 2 ^ 64 := fun k => Nat.lt_of_le_of_lt (Nat.div_le_self _ _) hn
  have Hd := hid hdiv
  clear R hdiv
  go_enter Try.func29, Try.ntmps29
  go_wp2
  go_loopw [0, 5, 6] (fun x b i wr => ∃ k y : Nat, k ≤ size ∧ i = .int .i64 k ∧ y = n / 256 ^ k ∧ x = .int .u64 (y : Int) ∧ OB wr w.heap.size 5 b (leB n k) ∧ Below w.heap.size w wr) (fun _ _ i _ => size - (intOf i).toNat)
  case atStart => exact ⟨0, n, Nat.zero_le _, rfl, by simp, rfl, OB.nil _ _ _, Below.refl _ _⟩
  case round =>
    obtain ⟨k, y, hk, rfl, hy, rfl, hown, hb⟩ := hrel
    have Hr := hid (And.intro hown hb)
    have hz := hb.size
    have hlt64 : y < 2 ^ 64 := by rw [hy]; exact Hd.out k
    have Hy := hid hy
    clear hy
    clear hown hb
    by_cases hlt : k < size
    · go_wp2_with (at_builtin; refine wpList_bytes H.out _ rfl _ _ _ rfl w.heap.size _ (leB n k) rfl (Hr.out.1.below ((Below.refl _ _).alloc (Nat.le_refl _) _)) _ [UInt8.ofNat (y % 256)] rfl (Src.byte wr un_bsE _ _ (low_byte y) _) ?c3 ?c4 ?_)
      case c3 => simp [leB_length]; omega
      case c4 => simp; omega
      intro v' w1 hown1 hgr1
      have H1 := hid (And.intro hown1 hgr1)
      clear hown1 hgr1
      go_wp2
      refine ⟨⟨k + 1, y / 256, by omega, by go_num, ?_, by go_num, ?_, ?_⟩, by simp [intOf]; omega⟩
      · rw [Nat.pow_succ, ← Nat.div_div_eq_div_mul, Hy.out]
      · rw [leB_snoc, ← Hy.out]; exact H1.out.1
      · exact Hr.out.2.trans (Below.trans ((Below.refl _ _).alloc hz _) (H1.out.2.below (by simp; omega) Hr.out.1.high))
    · go_wp2
      go_ret
      obtain rfl : k = size := by omega
      exact ⟨_, rfl, Hr.out.1, Hr.out.2⟩

/-- Two bytes that were just laid, as what is appended. -/
theorem Src.bytes2 {P : Program} (w : World) {tx e' t : TypeId} (hk : P.underlying tx = some (.slice e')) (a b : Nat) (ha : a ≤ 255) (hb : b ≤ 255) (m : Nat × Nat) :
    Src P 1 tx (.slice (some ⟨w.heap.size, 0, none⟩) 2 2) (leB a 1 ++ leB b 1).length (u8s (leB a 1 ++ leB b 1)) (w.alloc (.cells #[.int .u8 (a : Int), .int .u8 (b : Int)] t m)) := by
  have e : u8s (leB a 1 ++ leB b 1) = [.int .u8 (a : Int), .int .u8 (b : Int)] := by
    simp [u8s, leB]; omega
  rw [e]
  refine Src.ofSlice _ hk _ 2 2 _ (by simp) (fun j x hx => ?_) (fun x hx => by simp at hx; rcases hx with rfl | rfl <;> rfl)
  have hc := fun i => cell_of_row (w.alloc (.cells #[.int .u8 (a : Int), .int .u8 (b : Int)] t m)) _ i _ _ _ (heap_alloc_new w _)
  rcases j with _ | _ | j
  · simp at hx; subst hx; exact hc 0
  · simp at hx; subst hx; exact hc 1
  · simp at hx

set_option maxHeartbeats 1000000 in
theorem ref_entry (w : World) (a k s d v : Nat) (ha : a < 2 ^ 63) (hk : k ≤ 255) (hs : s ≤ 255) (hd : d < 2 ^ 63) (hv : v < 2 ^ 64) :
    Calls Try.prog 18 #[.int .i64 a, .int .i64 k, .int .i64 s, .int .i64 d, .int .u64 v] w fun e w' => ∃ v', e = .returned v' ∧ OB w' w.heap.size 5 v' (entryB a k s d v) ∧ Below w.heap.size w w' := by
  obtain ⟨i, R⟩ := u8row
  have H := hid R
  clear R
  have w1 : IntKind.u64.wrap (a : Int) = a := IntWalk.u64_in _ (by omega)
  have w2 : IntKind.u64.wrap (d : Int) = d := IntWalk.u64_in _ (by omega)
  go_enter Try.func18, Try.ntmps18
  go_wp2_with fail
  refine (ref_low _ a 4 _ rfl (by omega) (by omega)).mono ?_
  rintro e W1 ⟨v1, rfl, hown1, hb1⟩
  have H1 := hid (And.intro hown1 hb1)
  have hz1 := hb1.size
  clear hown1 hb1
  go_wp2_with (at_builtin; refine wpList_bytes H.out _ rfl _ _ _ rfl w.heap.size _ (leB a 4) rfl (H1.out.1.below ((Below.refl _ _).alloc (Nat.le_refl _) _)) _ (leB k 1 ++ leB s 1) rfl (Src.bytes2 W1 un_bsE k s hk hs _) ?c3 ?c4 ?_)
  case c3 => simp [leB_length]
  case c4 => simp; omega
  intro v2 W2 hown2 hg2
  have hb2 := hg2.below (B := w.heap.size) (by simp; omega) H1.out.1.high
  have H2 := hid (And.intro hown2 ((H1.out.2.alloc hz1 _).trans hb2))
  have hz2 : w.heap.size ≤ W2.heap.size := H2.out.2.size
  clear hown2 hb2 hg2
  go_wp2_with fail
  refine (ref_low _ d 2 _ rfl (by omega) (by omega)).mono ?_
  rintro e W3 ⟨v3, rfl, hown3, hb3⟩
  have hz3 := hb3.size
  have H3 := hid (And.intro (H2.out.1.below hb3) (And.intro (H2.out.2.trans (hb3.mono hz2)) (hown3.bs (by simp [leB_length]))))
  obtain ⟨a3, c3, rfl⟩ := hown3.form
  rw [leB_length] at *
  clear hown3 hb3
  go_wp2_with (at_builtin; refine wpList_bytes H.out _ rfl _ _ _ rfl w.heap.size _ _ rfl H3.out.1 _ (leB d 2) rfl (by have := Src.ofBS (P := Try.prog) un_bsE H3.out.2.2; rwa [leB_length]) ?c3 ?c4 ?_)
  case c3 => simp [leB_length]
  case c4 => omega
  intro v4 W4 hown4 hg4
  have hb4 := hg4.below (B := w.heap.size) (by omega) H3.out.1.high
  have H4 := hid (And.intro hown4 (H3.out.2.1.trans hb4))
  have hz4 : w.heap.size ≤ W4.heap.size := H4.out.2.size
  clear hown4 hb4 hg4
  go_wp2_with fail
  refine (ref_low _ v 8 _ rfl (by omega) (by omega)).mono ?_
  rintro e W5 ⟨v5, rfl, hown5, hb5⟩
  have hz5 := hb5.size
  have H5 := hid (And.intro (H4.out.1.below hb5) (And.intro (H4.out.2.trans (hb5.mono hz4)) (hown5.bs (by simp [leB_length]))))
  obtain ⟨a5, c5, rfl⟩ := hown5.form
  clear hown5 hb5
  go_wp2_with (at_builtin; refine wpList_bytes H.out _ rfl _ _ _ rfl w.heap.size _ _ rfl H5.out.1 _ (leB v 8) rfl (Src.ofBS (P := Try.prog) un_bsE H5.out.2.2) ?c3 ?c4 ?_)
  case c3 => simp [leB_length]
  case c4 => omega
  intro v6 W6 hown6 hg6
  have hb6 := hg6.below (B := w.heap.size) (by omega) H5.out.1.high
  have H6 := hid (And.intro hown6 (H5.out.2.1.trans hb6))
  clear hown6 hb6 hg6
  go_wp2
  go_ret
  refine ⟨_, rfl, ?_, H6.out.2⟩
  have h := H6.out.1
  unfold entryB
  simpa [List.append_assoc] using h

end Go.Proofs.Ytdckfcpjdakjaaa
