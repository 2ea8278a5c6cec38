/- A number's bytes: leb.Put, the reference's Put. -/
import Derived.Test.YtipgcdpmkpjokaaGreatDoorZSortM
import Derived.Test.YtipgcdpmkpjokaaGreatDoorZAppend
import Derived.Test.YtipgcdpmkpjokaaGreatDoorRows
namespace Go.Proofs.YtipgcdpmkpjokaaGreatDoor
set_option linter.unusedSimpArgs false
set_option linter.unusedVariables false
open Go.RowKit

theorem Tryz.infoByte8 : (Tryz.prog.info? 5).map (fun i => (i.zero, i.size, i.bytes)) = some (some (.int .u8 0), 1, 1) := by kernel_rfl
theorem un_bsX : Tryz.prog.underlying 29 = some (.slice 5) := by kernel_rfl
theorem u8rowX : ∃ i, U8Row Tryz.prog 29 5 i := by
  obtain ⟨i, hi, hz, hs, hb⟩ := info_parts Tryz.infoByte8
  exact ⟨i, un_bsX, hi, hz, hs, hb⟩

/-- One byte that was just laid. -/
theorem Src.byteX {P : Program} (w : World) {tx e' t : TypeId} (hk : P.underlying tx = some (.slice e')) (x : Int) (y : UInt8) (hx : x = (y.toNat : Int)) (m : Nat × Nat) {B : Nat} (hB : w.heap.size = B) :
    Src P 1 tx (.slice (some ⟨B, 0, none⟩) 1 1) [y].length (u8s [y]) (w.alloc (.cells #[.int .u8 x] t m)) := by
  subst hB
  subst hx
  exact Src.one w hk _ rfl m

theorem or128 : ∀ x : Fin 256, bits BinOp.or IntKind.u8 (x.val : Int) 128 = ((x.val % 128 + 128 : Nat) : Int) := by decide +kernel
theorem or128n (n : Nat) : bits BinOp.or IntKind.u8 ((n % 256 : Nat) : Int) 128 = ((n % 128 + 128 : Nat) : Int) := by
  have := or128 ⟨n % 256, Nat.mod_lt _ (by omega)⟩
  rw [this]
  congr 2
  show n % 256 % 128 = _
  omega

def PutR (w : World) (n0 : Nat) (t0 t3 : Value) (wr : World) : Prop :=
  ∃ (n f : Nat) (acc : List UInt8), t0 = .int .u64 (n : Int) ∧ n < 18446744073709551616 ∧ acc ++ putF f n = putM n0 ∧ n < 128 ^ f ∧ 0 < f ∧ f ≤ 10 ∧ OB wr w.heap.size 5 t3 acc ∧ Below w.heap.size w wr

/-- Bytes of the call's own. -/
def BytesEnd (w : World) (l : List UInt8) (e : Ending) (w' : World) : Prop := (∃ a cap, e = .returned (.slice a l.length cap) ∧ OB w' w.heap.size 5 (.slice a l.length cap) l) ∧ Below w.heap.size w w'

theorem OB.lenX {w : World} {base : Nat} {e : TypeId} {v : Value} {l : List UInt8} (h : OB w base e v l) : l.length ≤ 9223372036854775807 := by
  rcases h.2 with ⟨rfl, h1⟩ | ⟨g, cap, cur, rfl, hb, hg, hnc, hcm, hcs, htake⟩
  · rw [h1]; omega
  · unfold maxLen at hcm; omega

theorem lt128 {n : Nat} (hn : n < 18446744073709551616) : n < 128 ^ 10 := by
  have h10 : (128 : Nat) ^ 10 = 1180591620717411303424 := by decide
  omega

set_option maxHeartbeats 1000000 in
theorem lb_put (w : World) (n : Nat) (hn : n < 18446744073709551616) : Calls Tryz.prog 46 #[.int .u64 (n : Int)] w (BytesEnd w (putM n)) := by
  obtain ⟨ib, R⟩ := u8rowX
  have H := hid R
  clear R
  go_enter Tryz.func46, Tryz.ntmps46
  go_wp2_with fail
  go_loopw [0, 3] (fun t0 t3 wr => PutR w n t0 t3 wr) (fun t0 _ _ => (intOf t0).toNat)
  case atStart => exact ⟨n, 10, [], rfl, hn, rfl, lt128 hn, by omega, Nat.le_refl _, OB.nil _ _ _, Below.refl _ _⟩
  case round =>
    obtain ⟨m, f, acc, rfl, hm, hput, hf, hf0, hf10, hown, hb⟩ := hrel
    have hal : acc.length ≤ 10 := by
      have := congrArg List.length hput
      rw [List.length_append] at this
      have := putM_len n
      omega
    obtain ⟨p, c, hv⟩ := hown.form
    subst hv
    have hz := hb.size
    obtain ⟨y, hy⟩ : ∃ y : UInt8, y = UInt8.ofNat (m % 128 + 128) := ⟨_, rfl⟩
    have hyn : (y.toNat : Int) = ((m % 128 + 128 : Nat) : Int) := by rw [hy]; simp; omega
    have ho1 : bits BinOp.or IntKind.u8 ((m : Int) % 256) 128 = (y.toNat : Int) := by rw [hyn]; exact or128n m
    by_cases hge : 128 ≤ m
    · have d1 : decide ((128 : Int) ≤ (m : Int)) = true := by rw [decide_eq_true_eq]; omega
      have d2 : decide (128 ≤ m) = true := by rw [decide_eq_true_eq]; omega
      have hge' := hge
      have HS := hid (And.intro hput (And.intro hown (And.intro hb (And.intro hy (And.intro hf hge')))))
      have Hc := hid ho1
      clear hput hown hb hy hyn hf hge hge' ho1
      go_wp2_with (at_builtin; refine wpList_bytes H.out _ rfl _ _ _ rfl w.heap.size _ acc rfl (HS.out.2.1.below ((Below.refl _ _).alloc (Nat.le_refl _) _)) _ [y] rfl (Src.byteX wr un_bsX _ y Hc.out _ rfl) ?c3 ?c4 ?_)
      case c3 => simp; omega
      case c4 => simp; omega
      intro v1 w1 ho1 hg1
      have hb1 : Below w.heap.size w w1 := (HS.out.2.2.1.alloc hz _).trans (hg1.below (by simp; omega) (fun k hk => HS.out.2.1.high k hk))
      have H1 := hid (And.intro ho1 hb1)
      clear ho1 hg1 hb1
      go_wp2_with fail
      obtain ⟨f, rfl⟩ : ∃ g, f = g + 1 := ⟨f - 1, by omega⟩
      have hmf := HS.out.2.2.2.2.1
      have hmg := HS.out.2.2.2.2.2
      have hp : 128 ^ (f + 1) = 128 ^ f * 128 := Nat.pow_succ ..
      have hq : m / 128 < 128 ^ f := by omega
      refine ⟨⟨m / 128, f, acc ++ [y], congrArg (Value.int .u64) (by omega), by omega, ?_, hq, ?_, by omega, H1.out.1, H1.out.2⟩, by simp [intOf]; omega⟩
      · rw [HS.out.2.2.2.1, List.append_assoc, ← HS.out.1, putF_big (by omega)]; rfl
      · rcases Nat.eq_zero_or_pos f with h0 | h0
        · subst h0; simp at hq; omega
        · exact h0
    · have d1 : decide ((128 : Int) ≤ (m : Int)) = false := by rw [decide_eq_false_iff_not]; omega
      have d2 : decide (128 ≤ m) = false := by rw [decide_eq_false_iff_not]; omega
      obtain ⟨z, hzz⟩ : ∃ z : UInt8, z = UInt8.ofNat m := ⟨_, rfl⟩
      have hd1 : (m : Int) % 256 = (z.toNat : Int) := by rw [hzz]; simp
      have hd2 : (m : Int) = (z.toNat : Int) := by rw [hzz]; simp; omega
      have hfin : acc ++ [z] = putM n := by
        obtain ⟨f, rfl⟩ : ∃ g, f = g + 1 := ⟨f - 1, by omega⟩
        rw [hzz, ← hput, putF_small (by omega)]
      have HS := hid (And.intro hfin (And.intro hown hb))
      have Hd := hid (And.intro hd1 hd2)
      clear hput hown hb hy hyn hf hge ho1 hd1 hd2 hfin hzz
      go_wp2_with (at_builtin; refine wpList_bytes H.out _ rfl _ _ _ rfl w.heap.size _ acc rfl (HS.out.2.1.below ((Below.refl _ _).alloc (Nat.le_refl _) _)) _ [z] rfl (Src.byteX wr un_bsX _ z (by first | exact Hd.out.1 | exact Hd.out.2) _ rfl) ?c5 ?c6 ?_)
      case c5 => simp; omega
      case c6 => simp; omega
      intro v1 w1 ho1 hg1
      have hb1 : Below w.heap.size w w1 := (HS.out.2.2.alloc hz _).trans (hg1.below (by simp; omega) (fun k hk => HS.out.2.1.high k hk))
      rw [HS.out.1] at ho1
      have H1 := hid (And.intro ho1 hb1)
      clear ho1 hg1 hb1
      go_wp2_with fail
      go_ret
      obtain ⟨a1, c1, hv1⟩ := H1.out.1.form
      subst hv1
      exact ⟨⟨a1, c1, rfl, H1.out.1⟩, H1.out.2⟩

theorem OB.one (w : World) (x : Int) (y : UInt8) (hx : x = (y.toNat : Int)) : OB (w.alloc (.cells #[.int .u8 x] 5)) w.heap.size 5 (.slice (some ⟨w.heap.size, 0, none⟩) 1 1) [y] := by
  subst hx
  exact OB.laid w [y] (by simp)

set_option maxHeartbeats 1000000 in
/-- The reference's. -/
theorem ref_putF : ∀ (f : Nat) (w : World) (n : Nat), n < 128 ^ (f + 1) → f < 10 → n < 18446744073709551616 → Calls Tryz.prog 28 #[.int .u64 (n : Int)] w (BytesEnd w (putF (f + 1) n)) := by
  intro f
  induction f with
  | zero =>
    intro w n h _ h64
    rw [putF_small (by simpa using h)]
    have hlt : n < 128 := by simpa using h
    have d1 : decide ((n : Int) < 128) = true := by rw [decide_eq_true_eq]; omega
    have d2 : decide (n < 128) = true := by rw [decide_eq_true_eq]; omega
    have H := hid (And.intro (OB.one w ((n : Int) % 256) (UInt8.ofNat n) (by simp)) (OB.one w (n : Int) (UInt8.ofNat n) (by simp; omega)))
    clear h
    go_enter Tryz.func28, Tryz.ntmps28
    go_wp2_with fail
    go_ret
    exact ⟨⟨_, _, rfl, (by first | exact H.out.1 | exact H.out.2)⟩, (Below.refl _ _).alloc (Nat.le_refl _) _⟩
  | succ f ih =>
    intro w n h hf h64
    by_cases hlt : n < 128
    · rw [putF_small hlt]
      have d1 : decide ((n : Int) < 128) = true := by rw [decide_eq_true_eq]; omega
      have d2 : decide (n < 128) = true := by rw [decide_eq_true_eq]; omega
      have H := hid (And.intro (OB.one w ((n : Int) % 256) (UInt8.ofNat n) (by simp)) (OB.one w (n : Int) (UInt8.ofNat n) (by simp; omega)))
      clear h
      go_enter Tryz.func28, Tryz.ntmps28
      go_wp2_with fail
      go_ret
      exact ⟨⟨_, _, rfl, (by first | exact H.out.1 | exact H.out.2)⟩, (Below.refl _ _).alloc (Nat.le_refl _) _⟩
    · rw [putF_big hlt]
      have d1 : decide ((n : Int) < 128) = false := by rw [decide_eq_false_iff_not]; omega
      have d2 : decide (n < 128) = false := by rw [decide_eq_false_iff_not]; omega
      obtain ⟨y, hy⟩ : ∃ y : UInt8, y = UInt8.ofNat (n % 128 + 128) := ⟨_, rfl⟩
      have hyn : (y.toNat : Int) = (n : Int) % 128 + 128 := by rw [hy]; simp; omega
      have hp : 128 ^ (f + 1 + 1) = 128 ^ (f + 1) * 128 := Nat.pow_succ ..
      have hih := fun w => ih w (n / 128) (by omega) (by omega) (by omega)
      obtain ⟨r, hr⟩ : ∃ r, r = putF (f + 1) (n / 128) := ⟨_, rfl⟩
      have hrl : r.length ≤ 20 := by rw [hr]; have := putF_len (f + 1) (n / 128); omega
      rw [← hr] at hih
      rw [← hr, ← hy]
      have hdv : (n : Int) / 128 = ((n / 128 : Nat) : Int) := by omega
      obtain ⟨ib, R⟩ := u8rowX
      have H := hid (And.intro R (And.intro hih (And.intro (OB.one w _ y hyn.symm) hdv)))
      clear h hy hr hih hp R ih hyn hdv
      go_enter Tryz.func28, Tryz.ntmps28
      go_wp2_with fail
      rw [H.out.2.2.2]
      refine (H.out.2.1 _).mono ?_
      rintro e w1 ⟨⟨a, c, rfl, ho1⟩, hb1⟩
      have hbw : Below w.heap.size w w1 := ((Below.refl w.heap.size w).alloc (Nat.le_refl _) _).trans (hb1.mono (by simp))
      have H1 := hid (And.intro (H.out.2.2.1.below hb1) (And.intro (ho1.bs (by omega)) hbw))
      have hz := hbw.size
      clear ho1 hb1 hbw
      go_wp2_with (at_builtin; refine wpList_bytes H.out.1 _ rfl _ _ _ rfl w.heap.size _ [y] rfl H1.out.1 _ r rfl (Src.ofBS un_bsX H1.out.2.1) ?c7 ?c8 ?_)
      case c7 => simp; omega
      case c8 => exact hz
      intro v2 w2 ho2 hg2
      have hb2 : Below w.heap.size w w2 := H1.out.2.2.trans (hg2.below hz (fun k hk => H1.out.1.high k hk))
      have H2 := hid (And.intro ho2 hb2)
      clear ho2 hg2 hb2
      go_wp2_with fail
      go_ret
      obtain ⟨a2, c2, hv2⟩ := H2.out.1.form
      subst hv2
      exact ⟨⟨a2, c2, rfl, H2.out.1⟩, H2.out.2⟩

theorem ref_put (w : World) (n : Nat) (hn : n < 18446744073709551616) : Calls Tryz.prog 28 #[.int .u64 (n : Int)] w (BytesEnd w (putM n)) := ref_putF 9 w n (lt128 hn) (by omega) hn
end Go.Proofs.YtipgcdpmkpjokaaGreatDoor
