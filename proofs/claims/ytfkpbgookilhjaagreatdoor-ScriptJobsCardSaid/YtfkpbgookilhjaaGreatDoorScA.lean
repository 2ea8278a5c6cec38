/- The reference's numbers, names and blobs (chapter 26). -/
import Derived.Test.YtfkpbgookilhjaaGreatDoorGrew
import Derived.Test.YtfkpbgookilhjaaGreatDoorRows
import Derived.Test.YtfkpbgookilhjaaGreatDoorScM
namespace Go.Proofs.YtfkpbgookilhjaaGreatDoor
set_option linter.unusedSimpArgs false
set_option linter.unusedVariables false
open Go.RowKit

theorem Tryz.infoByteS : (Tryz.prog.info? 5).map (fun i => (i.zero, i.size, i.bytes)) = some (some (.int .u8 0), 1, 1) := by kernel_rfl
theorem un_bsS : Tryz.prog.underlying 30 = some (.slice 5) := by kernel_rfl
theorem un_strS : Tryz.prog.underlying 9 = some .string := by kernel_rfl
theorem u8rowS : ∃ i, U8Row Tryz.prog 30 5 i := by
  obtain ⟨i0, hi, hz0, hz1, hz2⟩ := info_parts Tryz.infoByteS
  exact ⟨i0, un_bsS, hi, hz0, hz1, hz2⟩

theorem put_byteS (n k : Nat) : ((n : Int) / 2 ^ (8 * k) % 256) = (((UInt8.ofNat (n / 256 ^ k % 256)).toNat : Nat) : Int) := by
  have e : (256 : Nat) ^ k = 2 ^ (8 * k) := by rw [Nat.pow_mul]
  have e2 : (n : Int) / 2 ^ (8 * k) % 256 = ((n / 2 ^ (8 * k) % 256 : Nat) : Int) := by simp
  rw [e2, e]
  simp
theorem Src.byteS {P : Program} (w : World) {tx e' t : TypeId} (hk : P.underlying tx = some (.slice e')) (x : Int) (y : UInt8) (hx : x = (y.toNat : Int)) (m : Nat × Nat) :
    Src P 1 tx (.slice (some ⟨w.heap.size, 0, none⟩) 1 1) [y].length (u8s [y]) (w.alloc (.cells #[.int .u8 x] t m)) := by
  subst hx
  exact Src.one w hk _ rfl m
theorem low_byteS (y : Nat) : ((y : Int) % 256) = (((UInt8.ofNat (y % 256)).toNat : Nat) : Int) := by simp

/-- What lies below a bound reads on. -/
theorem BS.under {w w' : World} {B : Nat} {v : Value} {l : List UInt8} (h : BS w v l) (hb : Below B w w') (hv : ∀ k, inBlk v k → k < B) : BS w' v l := h.of_block fun k hk _ => hb.block k (hv k hk)

set_option maxHeartbeats 400000 in
theorem ref_lowS (w : World) (n size : Nat) (m : Int) (hm : m = size) (hs : size ≤ 8) (hn : n < 2 ^ 64) :
    Calls Tryz.prog 79 #[.int .u64 n, .int .i64 m] w fun e w' => ∃ v', e = .returned v' ∧ OB w' w.heap.size 5 v' (lowB n size) ∧ Below w.heap.size w w' := by
  subst hm
  obtain ⟨i, R⟩ := u8rowS
  have H := hid R
  have hdiv : ∀ k : Nat, n / 256 ^ k < 2 ^ 64 := fun k => Nat.lt_of_le_of_lt (Nat.div_le_self _ _) hn
  have Hd := hid hdiv
  clear R hdiv
  go_enter Tryz.func79, Tryz.ntmps79
  go_wp2
  go_loopw [0, 5, 6] (fun x b i wr => ∃ k y : Nat, k ≤ size ∧ i = .int .i64 k ∧ y = n / 256 ^ k ∧ x = .int .u64 (y : Int) ∧ OB wr w.heap.size 5 b (lowB n k) ∧ Below w.heap.size w wr) (fun _ _ i _ => size - (intOf i).toNat)
  case atStart => exact ⟨0, n, Nat.zero_le _, rfl, by simp, rfl, OB.nil _ _ _, Below.refl _ _⟩
  case round =>
    obtain ⟨k, y, hk, rfl, hy, rfl, hown, hb⟩ := hrel
    have Hr := hid (And.intro hown hb)
    have hz := hb.size
    have hlt64 : y < 2 ^ 64 := by rw [hy]; exact Hd.out k
    have Hy := hid hy
    clear hy
    clear hown hb
    by_cases hlt : k < size
    · go_wp2_with (at_builtin; refine wpList_bytes H.out _ rfl _ _ _ rfl w.heap.size _ (lowB n k) rfl (Hr.out.1.below ((Below.refl _ _).alloc (Nat.le_refl _) _)) _ [UInt8.ofNat (y % 256)] rfl (Src.byteS wr un_bsS _ _ (low_byteS y) _) ?c3 ?c4 ?_)
      case c3 => simp [lowB_length]; omega
      case c4 => simp; omega
      intro v' w1 hown1 hgr1
      have H1 := hid (And.intro hown1 hgr1)
      clear hown1 hgr1
      go_wp2
      refine ⟨⟨k + 1, y / 256, by omega, by go_num, ?_, by go_num, ?_, ?_⟩, by simp [intOf]; omega⟩
      · rw [Nat.pow_succ, ← Nat.div_div_eq_div_mul, Hy.out]
      · rw [lowB_snoc, ← Hy.out]; exact H1.out.1
      · exact Hr.out.2.trans (Below.trans ((Below.refl _ _).alloc hz _) (H1.out.2.below (by simp; omega) Hr.out.1.high))
    · go_wp2
      go_ret
      obtain rfl : k = size := by omega
      exact ⟨_, rfl, Hr.out.1, Hr.out.2⟩

/-- An answer that took the place of v. -/
def GrewTo (w : World) (B : Nat) (v : Value) (ys : List UInt8) (e : Ending) (w' : World) : Prop := ∃ v', e = .returned v' ∧ OB w' B 5 v' ys ∧ Grew w w' v v'

set_option maxHeartbeats 400000 in
theorem rf_low (w : World) (B : Nat) (v : Value) (xs : List UInt8) (n size : Nat) (m : Int) (hm : m = size) (hs : size ≤ 8) (hn : n < 2 ^ 64) (hown : OB w B 5 v xs) (hlen : xs.length + size ≤ 140737488355328) (hB : B ≤ w.heap.size) :
    Calls Tryz.prog 43 #[v, .int .u64 n, .int .i64 m] w (GrewTo w B v (xs ++ lowB n size)) := by
  obtain ⟨i, R⟩ := u8rowS
  subst hm
  have HL := hid (fun w => ref_lowS w n size (size : Int) rfl hs hn)
  have H := hid (And.intro R hown)
  clear R hown
  go_enter Tryz.func43, Tryz.ntmps43
  go_wp2_with fail
  refine (HL.out _).mono ?_
  rintro e W1 ⟨v1, rfl, hown1, hb1⟩
  obtain ⟨a1, c1, rfl⟩ := hown1.form
  have hz1 := hb1.size
  have H1 := hid (And.intro (H.out.2.below hb1) (And.intro (Src.ofBS (P := Tryz.prog) un_bsS (hown1.bs (by rw [lowB_length]; omega))) hb1))
  clear hown1 hb1
  go_wp2_with (at_builtin; refine wpList_bytes H.out.1 _ rfl _ _ _ rfl B _ xs rfl H1.out.1 _ (lowB n size) rfl H1.out.2.1 ?c3 ?c4 ?_)
  case c3 => rw [lowB_length]; exact hlen
  case c4 => omega
  intro v2 W2 hown2 hg2
  have H2 := hid (And.intro hown2 (Grew.under H1.out.2.2 hg2))
  clear hown2 hg2
  go_wp2
  go_ret
  exact ⟨_, rfl, H2.out.1, H2.out.2⟩

set_option maxHeartbeats 400000 in
theorem rf_name (w : World) (B : Nat) (v : Value) (xs s : List UInt8) (hown : OB w B 5 v xs) (hlen : xs.length + 2 + s.length ≤ 140737488355328) (hB : B ≤ w.heap.size) :
    Calls Tryz.prog 44 #[v, .string (mkS s)] w (GrewTo w B v (xs ++ nmB s)) := by
  obtain ⟨i, R⟩ := u8rowS
  have hw1 : IntKind.u64.wrap (s.length : Int) = s.length := IntWalk.u64_in _ (by omega)
  have H := hid (And.intro R hown)
  clear R hown
  go_enter Tryz.func44, Tryz.ntmps44
  go_wp2_with fail
  refine (rf_low _ B v xs s.length 2 _ rfl (by omega) (by omega) H.out.2 (by omega) hB).mono ?_
  rintro e W1 ⟨v1, rfl, hown1, hg1⟩
  have hz1 := hg1.size
  have H1 := hid (And.intro hown1 hg1)
  clear hown1 hg1
  go_wp2_with (at_builtin; refine wpList_bytes H.out.1 _ rfl _ _ _ rfl B _ (xs ++ lowB s.length 2) rfl H1.out.1 _ s rfl (Src.ofMkS _ un_strS s) ?c3 ?c4 ?_)
  case c3 => rw [List.length_append, lowB_length]; exact hlen
  case c4 => omega
  intro v2 W2 hown2 hg2
  have hown2 : OB W2 B 5 v2 (xs ++ nmB s) := hown2
  have H2 := hid (And.intro hown2 (H1.out.2.trans hg2))
  clear hown2 hg2
  go_wp2
  go_ret
  exact ⟨v2, rfl, H2.out.1, H2.out.2⟩

set_option maxHeartbeats 400000 in
theorem rf_blob (w : World) (B : Nat) (v : Value) (xs s : List UInt8) (p : Option Addr) (cap : Nat) (hx : BS w (.slice p s.length cap) s) (hp : ∀ k, inBlk (.slice p s.length cap) k → k < B) (hown : OB w B 5 v xs) (hlen : xs.length + 4 + s.length ≤ 140737488355328) (hB : B ≤ w.heap.size) :
    Calls Tryz.prog 45 #[v, .slice p s.length cap] w (GrewTo w B v (xs ++ blB s)) := by
  obtain ⟨i, R⟩ := u8rowS
  have hw1 : IntKind.u64.wrap (s.length : Int) = s.length := IntWalk.u64_in _ (by omega)
  have H := hid (And.intro R (And.intro hown (And.intro hx hp)))
  clear R hown hx hp
  go_enter Tryz.func45, Tryz.ntmps45
  go_wp2_with fail
  refine (rf_low _ B v xs s.length 4 _ rfl (by omega) (by omega) H.out.2.1 (by omega) hB).mono ?_
  rintro e W1 ⟨v1, rfl, hown1, hg1⟩
  have hz1 := hg1.size
  have hx1 := H.out.2.2.1.under (hg1.below hB H.out.2.1.high) H.out.2.2.2
  have H1 := hid (And.intro hown1 (And.intro hg1 (Src.ofBS (P := Tryz.prog) un_bsS hx1)))
  clear hown1 hg1 hx1
  go_wp2_with (at_builtin; refine wpList_bytes H.out.1 _ rfl _ _ _ rfl B _ (xs ++ lowB s.length 4) rfl H1.out.1 _ s rfl H1.out.2.2 ?c3 ?c4 ?_)
  case c3 => rw [List.length_append, lowB_length]; exact hlen
  case c4 => omega
  intro v2 W2 hown2 hg2
  have hown2 : OB W2 B 5 v2 (xs ++ blB s) := hown2
  have H2 := hid (And.intro hown2 (H1.out.2.1.trans hg2))
  clear hown2 hg2
  go_wp2
  go_ret
  exact ⟨v2, rfl, H2.out.1, H2.out.2⟩
end Go.Proofs.YtfkpbgookilhjaaGreatDoor
