/- The names that TrieMany makes. -/
import Derived.Test.YtipgcdpmkpjokaaGreatDoorZMkD
import Derived.Test.YtipgcdpmkpjokaaGreatDoorZTMayR
import Derived.Test.YtipgcdpmkpjokaaGreatDoorZMkX
import Derived.Test.YtipgcdpmkpjokaaGreatDoorZMkY
import Derived.Test.YtipgcdpmkpjokaaGreatDoorZFindP
import Derived.Test.YtipgcdpmkpjokaaGreatDoorZAllE
import Derived.Test.YtipgcdpmkpjokaaGreatDoorZRfN
namespace Go.Proofs.YtipgcdpmkpjokaaGreatDoor
set_option linter.unusedSimpArgs false
set_option linter.unusedVariables false
open Go.RowKit

def nameN (i : Nat) : List UInt8 := [UInt8.ofNat (97 + i % 26), UInt8.ofNat (97 + i / 26 % 26), UInt8.ofNat (97 + i / 676 % 26)]

set_option maxHeartbeats 1000000 in
set_option maxRecDepth 100000 in
theorem name_any (w : World) (i : Nat) (hi : i ≤ 5000) : Calls Tryz.prog 6 #[.int .i64 (i : Int)] w fun e w' => e = .returned (.string (mkS (nameN i))) ∧ Below w.heap.size w w' := by
  have hb : ∀ n : Nat, n < 256 → ((UInt8.ofNat n).toNat : Int) = (n : Int) := fun n hn => by simp; omega
  have hc : (u8s (nameN i)).toArray = #[Value.int .u8 (97 + (i : Int) % 26), Value.int .u8 (97 + (i : Int) / 26 % 26), Value.int .u8 (97 + (i : Int) / 676 % 26)] := by
    show #[Value.int .u8 ((UInt8.ofNat (97 + i % 26)).toNat : Int), Value.int .u8 ((UInt8.ofNat (97 + i / 26 % 26)).toNat : Int), Value.int .u8 ((UInt8.ofNat (97 + i / 676 % 26)).toNat : Int)] = _
    rw [hb _ (by omega), hb _ (by omega), hb _ (by omega)]
    simp
  have ht := run_toString (P := Tryz.prog) (w := w.alloc (.cells (u8s (nameN i)).toArray 5)) (some ⟨w.heap.size, 0, none⟩) 3 3 Tryz.underlying29 Tryz.underlying5 Tryz.underlying9 (BS.lit w (nameN i) (by simp [nameN]))
  rw [hc] at ht
  clear hb hc
  go_enter Tryz.func6, Tryz.ntmps6
  go_wp2_with fail
  go_ret
  exact ⟨rfl, (Below.refl _ _).alloc (Nat.le_refl _) _⟩

def xN (i : Nat) : Exp := ⟨nameN i, 2, false, i, 0, 0, []⟩
def listN (j : Nat) : List Exp := (List.range j).map xN
theorem listN_succ (j : Nat) : listN (j + 1) = listN j ++ [xN j] := by unfold listN; rw [List.range_succ, List.map_append]; rfl
theorem listN_len (j : Nat) : (listN j).length = j := by simp [listN]
theorem listN_in {j : Nat} (hj : j ≤ 5000) : ∀ x ∈ listN j, (x.value < 2 ^ 64 ∧ x.resolver < 2 ^ 64 ∧ x.ordinal < 2 ^ 64) ∧ x.name.length ≤ 1000 ∧ x.other.length ≤ 1000 := by
  intro x hx
  unfold listN at hx
  obtain ⟨i, hi, rfl⟩ := List.mem_map.1 hx
  have := List.mem_range.1 hi
  refine ⟨⟨?_, by simp [xN], by simp [xN]⟩, by simp [xN, nameN], by simp [xN]⟩
  show i < 2 ^ 64
  omega
end Go.Proofs.YtipgcdpmkpjokaaGreatDoor

namespace Go.Proofs.YtipgcdpmkpjokaaGreatDoor
set_option linter.unusedSimpArgs false
set_option linter.unusedVariables false
open Go.RowKit Go.Sort

def ManyEnd (w : World) (e : Ending) (w' : World) : Prop := e = .returned (.bool true) ∧ Below w.heap.size w w'

/-- Bytes that were just laid. -/
theorem Src.u8lit (w : World) (zs : List Int) (ys : List UInt8) (h : zs = ys.map fun (y : UInt8) => (y.toNat : Int)) (m : Nat × Nat) : Src Tryz.prog 1 29 (.slice (some ⟨w.heap.size, 0, none⟩) zs.length zs.length) ys.length (u8s ys) (w.alloc (.cells (zs.map fun (z : Int) => Value.int .u8 z).toArray 5 m)) := by
  subst h
  have e : (List.map (fun (z : Int) => Value.int .u8 z) (ys.map fun (y : UInt8) => (y.toNat : Int))) = u8s ys := by unfold u8s; rw [List.map_map]; rfl
  rw [e, List.length_map]
  exact Src.laid w un_bsX (u8s ys) ys.length (by simp [u8s]) (by intro u hu; unfold u8s at hu; obtain ⟨y, -, rfl⟩ := List.mem_map.1 hu; rfl) m (by simp [u8s])

set_option maxHeartbeats 8000000 in
set_option maxRecDepth 100000 in
theorem tr_many (w : World) (a b : Int) (het : ET w) : Calls Tryz.prog 3 #[.int .i64 a, .int .i64 b] w (ManyEnd w) := by
  have H := hid het
  clear het
  by_cases h1 : a < 4090
  · have d1 : decide (a < 4090) = true := by rw [decide_eq_true_eq]; omega
    go_enter Tryz.func3, Tryz.ntmps3
    go_wp2_with fail
    refine (trie_known _ H.out).mono ?_
    rintro e w1 ⟨rfl, hb⟩
    go_wp2_with fail
    go_ret
    exact ⟨rfl, hb⟩
  have d1 : decide (a < 4090) = false := by rw [decide_eq_false_iff_not]; omega
  by_cases h2 : 4100 < a
  · have d2 : decide (4100 < a) = true := by rw [decide_eq_true_eq]; omega
    go_enter Tryz.func3, Tryz.ntmps3
    go_wp2_with fail
    refine (trie_known _ H.out).mono ?_
    rintro e w1 ⟨rfl, hb⟩
    go_wp2_with fail
    go_ret
    exact ⟨rfl, hb⟩
  have d2 : decide (4100 < a) = false := by rw [decide_eq_false_iff_not]; omega
  by_cases h3 : b < 1
  · have d3 : decide (b < 1) = true := by rw [decide_eq_true_eq]; omega
    go_enter Tryz.func3, Tryz.ntmps3
    go_wp2_with fail
    refine (trie_known _ H.out).mono ?_
    rintro e w1 ⟨rfl, hb⟩
    go_wp2_with fail
    go_ret
    exact ⟨rfl, hb⟩
  have d3 : decide (b < 1) = false := by rw [decide_eq_false_iff_not]; omega
  by_cases h4 : 200 < b
  · have d4 : decide (200 < b) = true := by rw [decide_eq_true_eq]; omega
    go_enter Tryz.func3, Tryz.ntmps3
    go_wp2_with fail
    refine (trie_known _ H.out).mono ?_
    rintro e w1 ⟨rfl, hb⟩
    go_wp2_with fail
    go_ret
    exact ⟨rfl, hb⟩
  have d4 : decide (200 < b) = false := by rw [decide_eq_false_iff_not]; omega
  obtain ⟨m, rfl⟩ : ∃ m : Nat, a = m := ⟨a.toNat, by omega⟩
  obtain ⟨wd, rfl⟩ : ∃ m : Nat, b = m := ⟨b.toNat, by omega⟩
  have hm : 4090 ≤ m ∧ m ≤ 4100 := by omega
  have hw : 1 ≤ wd ∧ wd ≤ 200 := by omega
  obtain ⟨hm1, hm2⟩ := hm
  obtain ⟨hw1, hw2⟩ := hw
  clear h1 h2 h3 h4
  obtain ⟨i0, hi0, hz0, hz1, hz2⟩ := info_parts Tryz.infoExport
  have HI := hid (And.intro hi0 (And.intro hz0 (And.intro hz1 hz2)))
  clear hi0 hz0 hz1 hz2
  go_enter Tryz.func3, Tryz.ntmps3
  go_wp2_with fail
  go_loopw [5, 6] (fun v5 v6 wx => ∃ (j : Nat) (a5 : Option Addr) (c5 : Nat), j ≤ m ∧ v6 = .int .i64 (j : Int) ∧ v5 = .slice a5 j c5 ∧ wx.ownsRow w.heap.size 28 7 (.slice a5 j c5) j (expCells (listN j)) ∧ Below w.heap.size w wx) (fun _ v6 _ => m - (intOf v6).toNat)
  case atStart => exact ⟨0, none, 0, Nat.zero_le _, rfl, rfl, World.ownsRow_nil _ _ _ _, Below.refl _ _⟩
  case round =>
    obtain ⟨j, a5, c5, hj, rfl, rfl, ho, hb⟩ := hrel
    by_cases hjm : j < m
    · have hd : decide ((j : Int) < (m : Int)) = true := by rw [decide_eq_true_eq]; omega
      have hd' : decide (j < m) = true := by rw [decide_eq_true_eq]; omega
      have H1 := hid (And.intro ho hb)
      clear ho hb
      go_wp2_with fail
      refine (name_any _ j (by omega)).mono ?_
      rintro e w1 ⟨rfl, hb1⟩
      have H2 := hid (And.intro (ownsRow_below H1.out.1 hb1) (H1.out.2.trans (hb1.mono H1.out.2.size)))
      clear hb1
      go_wp2_with (at_builtin; refine wpList_append_grew _ rfl _ _ _ _ rfl w.heap.size 28 i0 _ 7 72 Tryz.underlying23 HI.out.1 HI.out.2.1 HI.out.2.2.1 HI.out.2.2.2 rfl _ j (expCells (listN j)) rfl (ownsRow_below H2.out.1 ((Below.refl _ _).alloc (Nat.le_refl _) _)) _ 1 [.string (mkS (nameN j)), .int .i64 2, .bool false, .int .u64 (j : Int), .int .u64 0, .int .u64 0, .string ⟨#[]⟩] rfl (Src.laid _ Tryz.underlying23 [.string (mkS (nameN j)), .int .i64 2, .bool false, .int .u64 (j : Int), .int .u64 0, .int .u64 0, .string ⟨#[]⟩] 1 rfl (by simp [Value.oneCell']) (0, 0) (by simp)) ?c1 ?c2 ?c3 ?_)
      case c1 => exact Nat.le_trans (show j + 1 ≤ 5000 by omega) (by decide)
      case c2 => omega
      case c3 => have := H2.out.2.size; simp; omega
      intro v2 W2 ho2 hg2
      have hg2' : Grew w1 W2 (.slice a5 j c5) v2 := Grew.under ((Below.refl _ _).alloc (Nat.le_refl _) _) hg2
      obtain ⟨a6, c6, hv2⟩ := ownsRow_form ho2
      subst hv2
      have hbl := H2.out.2.trans (hg2'.below H2.out.2.size (fun k e => (H2.out.1.lt k e).1))
      have H3 := hid (And.intro ho2 hbl)
      clear ho2 hg2 hg2' hbl
      go_wp2_with fail
      go_roundw
      case rel => exact ⟨j + 1, a6, c6, by omega, by go_num, rfl, by rw [listN_succ, expCells_snoc]; exact H3.out.1, H3.out.2⟩
      case measure => simp [intOf]; omega
    · obtain rfl : j = m := by omega
      have hd : decide ((j : Int) < (j : Int)) = false := by rw [decide_eq_false_iff_not]; omega
      have hll := listN_len j
      obtain ⟨l, hl⟩ : ∃ l, l = listN j := ⟨_, rfl⟩
      have hin := listN_in (j := j) (by omega)
      rw [← hl] at ho hll hin
      have hes := ES.of_owns (l := l) (by rw [hll]; exact ho) (by omega)
      have hin1 := fun x hx => (hin x hx).1
      have hin2 := fun x hx => (hin x hx).2
      obtain ⟨F, P0, hF⟩ := made_of l hin1
      obtain ⟨rb, re⟩ : ∃ r, r = makeM l (allK F) P0 := ⟨_, rfl⟩
      obtain ⟨b, z⟩ := rb
      have hm := make_any wr a5 c5 l F P0 (by rw [hll]; exact hes) hin1 hF
      rw [← re, hll] at hm
      have hbl := makeM_len hin1 hF re.symm
      have H1 := hid (And.intro hes (And.intro hb (And.intro hm (And.intro hin1 (And.intro hin2 (And.intro hF (And.intro re.symm (And.intro hll (H.out.below hb)))))))))
      obtain ⟨w4, hw4⟩ : ∃ w4, w4 = wr := ⟨_, rfl⟩
      subst hw4
      clear hes hb hm hin hin1 hin2 hF re hl hll ho
      go_wp2_with fail
      refine (H1.out.2.2.1).mono ?_
      rintro e W2 ⟨⟨ba, bc, rfl, hob2⟩, hb2⟩
      have hm := rmake_any W2 a5 c5 l F P0 (by rw [H1.out.2.2.2.2.2.2.2.1]; exact H1.out.1.below hb2) H1.out.2.2.2.1 H1.out.2.2.2.2.1 H1.out.2.2.2.2.2.1
      rw [H1.out.2.2.2.2.2.2.1, H1.out.2.2.2.2.2.2.2.1] at hm
      have H2 := hid (And.intro hob2 (And.intro (H1.out.2.1.trans (hb2.mono H1.out.2.1.size)) (And.intro hm (H1.out.2.2.2.2.2.2.2.2.below hb2))))
      clear hob2 hb2 hm
      dsimp only
      go_wp2_with fail
      refine (H2.out.2.2.1).mono ?_
      rintro e W3 ⟨⟨ca, cc, rfl, hob3⟩, hb3⟩
      have hB3 : BS W3 (.slice ba b.length bc) b := (H2.out.1.below hb3).bs (show b.length ≤ 140737488355328 by omega)
      have H3 := hid (And.intro hB3 (And.intro (H2.out.2.1.trans (hb3.mono H2.out.2.1.size)) (H2.out.2.2.2.below hb3)))
      clear hob3 hb3 hB3
      dsimp only
      obtain ⟨tz, htz⟩ : ∃ t, t = ((z : Int) == 0) := ⟨_, rfl⟩
      have htz' := htz.symm
      have HZ := hid htz
      clear htz
      go_upto_if 63 with fail
      go_cut [] (fun wx => Below W3.heap.size W3 wx)
      case first =>
        cases tz with
        | false =>
          go_wp2_with fail
          go_meet
          exact Below.refl _ _
        | true =>
          have hz : z = 0 := by have := HZ.out; simpa using this.symm
          subst hz
          obtain ⟨-, hall, hap, hl4, hnm⟩ := makeM_good H1.out.2.2.2.1 H1.out.2.2.2.2.2.1 H1.out.2.2.2.2.2.2.1
          have hta := trie_all W3 ba b.length bc b H3.out.1 H3.out.2.2
          rw [hall] at hta
          have hlb : (byNames l).length = j := by rw [(byNames_perm l).length_eq]; exact H1.out.2.2.2.2.2.2.2.1
          have HA := hid (And.intro hta hlb)
          clear hta hall hap hl4 hnm hlb
          go_wp2_with fail
          refine (HA.out.1).mono ?_
          rintro e W5 ⟨va, rfl, hes5, hb5⟩
          obtain ⟨pa, pc, hva⟩ := hes5.form
          rw [HA.out.2] at hva
          subst hva
          have H5 := hid hb5
          clear hes5 hb5
          go_wp2_with fail
          go_meet
          exact H5.out
      case rest =>
        have HC := hid (And.intro (H3.out.2.1.trans (hcut.mono H3.out.2.1.size)) (H3.out.2.2.below hcut))
        clear hcut
        obtain ⟨iu, RU⟩ := u8rowX
        have HU := hid RU
        clear RU
        obtain ⟨w5, hw5⟩ : ∃ w5, w5 = wc := ⟨_, rfl⟩
        subst hw5
        go_wp2_with fail
        go_loopw [13, 15] (fun v13 v15 wx => ∃ (i : Nat) (T : List UInt8) (a : Option Addr) (c : Nat), i ≤ 3 ∧ v15 = .int .i64 (i : Int) ∧ v13 = .slice a T.length c ∧ OB wx w5.heap.size 5 (.slice a T.length c) T ∧ T.length ≤ i * 810 ∧ Below w5.heap.size w5 wx) (fun _ v15 _ => 3 - (intOf v15).toNat)
        case atStart => exact ⟨0, [], none, 0, by omega, rfl, rfl, OB.nil _ _ _, by simp, Below.refl _ _⟩
        case round =>
          obtain ⟨i, T, a, c, hi, rfl, rfl, ho, hT, hb⟩ := hrel
          obtain ⟨mT, hmT⟩ : ∃ n, n = T.length := ⟨_, rfl⟩
          rw [← hmT] at ho hT
          rw [← hmT]
          by_cases hi3 : i < 3
          · have hd : decide ((i : Int) < 3) = true := by rw [decide_eq_true_eq]; omega
            have hd' : decide (i < 3) = true := by rw [decide_eq_true_eq]; omega
            have H6 := hid (And.intro ho (And.intro hb hmT))
            clear ho hb hmT
            obtain ⟨yw, hyw⟩ : ∃ y : UInt8, (y.toNat : Int) = (wd : Int) := ⟨UInt8.ofNat wd, by simp; omega⟩
            have Hy := hid hyw
            clear hyw
            go_wp2_with (at_builtin; refine wpList_bytes HU.out _ rfl _ _ _ rfl w5.heap.size _ T rfl (H6.out.1.below ((Below.refl _ _).alloc (Nat.le_refl _) _)) _ [0, yw] rfl (Src.u8lit _ [0, (wd : Int)] [0, yw] (by simp [Hy.out]) (0, 0)) ?d1 ?d2 ?_)
            case d1 => have := H6.out.2.2; simp; omega
            case d2 => have := H6.out.2.1.size; simp; omega
            intro v9 W9 ho9 hg9
            have hg9' : Grew wr W9 (.slice a mT c) v9 := Grew.under ((Below.refl _ _).alloc (Nat.le_refl _) _) hg9
            have hb9 := H6.out.2.1.trans (hg9'.below H6.out.2.1.size H6.out.1.high)
            obtain ⟨a9, c9, hv9⟩ := ho9.form
            subst hv9
            have hl9 : (T ++ [0, yw]).length = mT + 2 := by rw [List.length_append, ← H6.out.2.2]; rfl
            obtain ⟨T9, hT9⟩ : ∃ t, t = T ++ [0, yw] := ⟨_, rfl⟩
            rw [← hT9] at ho9 hl9
            rw [← hT9]
            obtain ⟨nx, hnx⟩ : ∃ n : Nat, n = mT + 2 + wd * 4 := ⟨_, rfl⟩
            have hnx' : (mT : Int) + 2 + (wd : Int) * 4 = (nx : Int) := by omega
            have hnxb : nx ≤ 5000 := by omega
            have H9 := hid (And.intro ho9 (And.intro hb9 hl9))
            clear ho9 hg9 hg9' hb9 hl9 hT9 hnx
            go_upto_region 23 with fail
            rw [hnx']
            clear hnx'
            obtain ⟨w9, hw9⟩ : ∃ w9, w9 = W9 := ⟨_, rfl⟩
            obtain ⟨w8, hw8⟩ : ∃ w8, w8 = wr := ⟨_, rfl⟩
            subst hw8
            go_wp2_with fail
            go_loopw [13, 16] (fun v13 v16 wx => ∃ (k : Nat) (T : List UInt8) (a : Option Addr) (c : Nat), k ≤ wd ∧ v16 = .int .i64 (k : Int) ∧ v13 = .slice a T.length c ∧ OB wx w5.heap.size 5 (.slice a T.length c) T ∧ T.length ≤ i * 810 + 2 + 4 * k ∧ Below w5.heap.size w5 wx) (fun _ v16 _ => wd - (intOf v16).toNat)
            case atStart => exact ⟨0, T9, a9, c9, Nat.zero_le _, rfl, rfl, H9.out.1, by have := H9.out.2.2; omega, H9.out.2.1⟩
            case round =>
              obtain ⟨k, T2, a2, c2, hk, rfl, rfl, ho2, hT2, hb2⟩ := hrel
              obtain ⟨m2, hm2'⟩ : ∃ n, n = T2.length := ⟨_, rfl⟩
              rw [← hm2'] at ho2 hT2
              rw [← hm2']
              by_cases hkw : k < wd
              · have hd2 : decide ((k : Int) < (wd : Int)) = true := by rw [decide_eq_true_eq]; omega
                have hd2' : decide (k < wd) = true := by rw [decide_eq_true_eq]; omega
                have H7 := hid (And.intro ho2 (And.intro hb2 hm2'))
                clear ho2 hb2 hm2'
                obtain ⟨y1, hy1⟩ : ∃ y : UInt8, (y.toNat : Int) = 1 + (k : Int) := ⟨UInt8.ofNat (1 + k), by simp; omega⟩
                obtain ⟨y2, hy2⟩ : ∃ y : UInt8, (y.toNat : Int) = (nx : Int) % 128 + 128 := ⟨UInt8.ofNat (nx % 128 + 128), by simp; omega⟩
                obtain ⟨y3, hy3⟩ : ∃ y : UInt8, (y.toNat : Int) = (nx : Int) / 128 := ⟨UInt8.ofNat (nx / 128), by simp; omega⟩
                have Hy3 := hid (And.intro hy1 (And.intro hy2 hy3))
                clear hy1 hy2 hy3
                go_wp2_with (at_builtin; refine wpList_bytes HU.out _ rfl _ _ _ rfl w5.heap.size _ T2 rfl (H7.out.1.below ((Below.refl _ _).alloc (Nat.le_refl _) _)) _ [y1, 0, y2, y3] rfl (Src.u8lit _ [1 + (k : Int), 0, (nx : Int) % 128 + 128, (nx : Int) / 128] [y1, 0, y2, y3] (by simp [Hy3.out.1, Hy3.out.2.1, Hy3.out.2.2]) (0, 0)) ?f1 ?f2 ?_)
                case f1 => have := H7.out.2.2; simp; omega
                case f2 => have := H7.out.2.1.size; simp; omega
                intro v3 W3b ho3 hg3
                have hg3' : Grew wr W3b (.slice a2 m2 c2) v3 := Grew.under ((Below.refl _ _).alloc (Nat.le_refl _) _) hg3
                have hb3 := H7.out.2.1.trans (hg3'.below H7.out.2.1.size H7.out.1.high)
                obtain ⟨a3, c3, hv3⟩ := ho3.form
                subst hv3
                have hl3 : (T2 ++ [y1, 0, y2, y3]).length = m2 + 4 := by rw [List.length_append, ← H7.out.2.2]; rfl
                have H8 := hid (And.intro ho3 (And.intro hb3 hl3))
                clear ho3 hg3 hg3' hb3 hl3
                go_wp2_with fail
                go_roundw
                case rel => exact ⟨k + 1, _, a3, c3, by omega, by go_num, rfl, H8.out.1, by have := H8.out.2.2; omega, H8.out.2.1⟩
                case measure => simp [intOf]; omega
              · have hkw' : k = wd := by omega
                have hd2 : decide ((k : Int) < (wd : Int)) = false := by rw [decide_eq_false_iff_not]; omega
                have hd2' : decide (k < wd) = false := by rw [decide_eq_false_iff_not]; omega
                have H7 := hid (And.intro ho2 (And.intro hb2 (And.intro hm2' hkw')))
                clear ho2 hb2 hm2' hkw'
                go_wp2_with fail
                go_roundw
                case rel => exact ⟨i + 1, T2, a2, c2, by omega, by go_num, by rw [← H7.out.2.2.1], by rw [← H7.out.2.2.1]; exact H7.out.1, by have := H7.out.2.2.1; omega, H7.out.2.1⟩
                case measure => simp [intOf]; omega
          · have hd : decide ((i : Int) < 3) = false := by rw [decide_eq_false_iff_not]; omega
            have hd' : decide (i < 3) = false := by rw [decide_eq_false_iff_not]; omega
            have H6 := hid (And.intro ho (And.intro hb hmT))
            clear ho hb hmT
            go_wp2_with (at_builtin; refine wpList_bytes HU.out _ rfl _ _ _ rfl w5.heap.size _ T rfl (H6.out.1.below ((Below.refl _ _).alloc (Nat.le_refl _) _)) _ [2, 0, 9, 0] rfl (Src.u8lit _ [2, 0, 9, 0] [2, 0, 9, 0] rfl (0, 0)) ?g1 ?g2 ?_)
            case g1 => have := H6.out.2.2; simp; omega
            case g2 => have := H6.out.2.1.size; simp; omega
            intro v9 W9 ho9 hg9
            have hg9' : Grew wr W9 (.slice a mT c) v9 := Grew.under ((Below.refl _ _).alloc (Nat.le_refl _) _) hg9
            have hb9 := H6.out.2.1.trans (hg9'.below H6.out.2.1.size H6.out.1.high)
            obtain ⟨a9, c9, hv9⟩ := ho9.form
            subst hv9
            obtain ⟨T9, hT9⟩ : ∃ t, t = T ++ [2, 0, 9, 0] := ⟨_, rfl⟩
            have hl9 : T9.length ≤ 5000 := by rw [hT9, List.length_append, ← H6.out.2.2]; simp; omega
            rw [← hT9] at ho9
            rw [← hT9]
            have hB9 : BS W9 (.slice a9 T9.length c9) T9 := ho9.bs (by omega)
            have hta := trie_all W9 a9 T9.length c9 T9 hB9 (HC.out.2.below hb9)
            obtain ⟨r, hr⟩ : ∃ r, r = allS T9 := ⟨_, rfl⟩
            rw [← hr] at hta
            have H9 := hid (And.intro hB9 (And.intro (HC.out.2.below hb9) (And.intro (HC.out.1.trans (hb9.mono HC.out.1.size)) (And.intro hta hr))))
            clear ho9 hg9 hg9' hb9 hT9 hB9 hta hr hl9
            obtain ⟨E, L⟩ := r
            go_wp2_with fail
            refine (H9.out.2.2.2.1).mono ?_
            rintro e W10 ⟨va, rfl, hes, hb10⟩
            obtain ⟨pa, pc, hva⟩ := hes.form
            subst hva
            have hra := ref_all W10 a9 T9.length c9 T9 (H9.out.1.below hb10)
            rw [← H9.out.2.2.2.2] at hra
            have H10 := hid (And.intro hes (And.intro hra (And.intro (H9.out.2.1.below hb10) (H9.out.2.2.1.trans (hb10.mono H9.out.2.2.1.size)))))
            clear hes hra hb10
            dsimp only
            go_wp2_with fail
            refine (H10.out.2.1).mono ?_
            rintro e W11 ⟨vb, rfl, hes2, hb11⟩
            obtain ⟨pb, pbc, hvb⟩ := hes2.form
            subst hvb
            have H11 := hid (And.intro (H10.out.1.below hb11) (And.intro hes2 (And.intro (H10.out.2.2.1.below hb11) (H10.out.2.2.2.trans (hb11.mono H10.out.2.2.2.size)))))
            clear hes2 hb11
            dsimp only
            go_wp2_with fail
            refine (ref_same W11 _ _ L H11.out.1 H11.out.2.1).mono ?_
            rintro e w12 ⟨rfl, q, rfl⟩
            obtain ⟨V, hV⟩ : ∃ V, V = W11.drewN q := ⟨_, rfl⟩
            have hbV : Below W11.heap.size W11 V := by rw [hV]; exact below_drewNX (Below.refl _ _) q
            have H12 := hid (And.intro (H11.out.2.2.1.below hbV) (H11.out.2.2.2.trans (hbV.mono H11.out.2.2.2.size)))
            rw [← hV]
            clear hV hbV
            go_wp2_with fail
            refine (trie_known V H12.out.1).mono ?_
            rintro e w13 ⟨rfl, hb13⟩
            go_wp2_with fail
            go_ret
            exact ⟨rfl, H12.out.2.trans (hb13.mono H12.out.2.size)⟩
end Go.Proofs.YtipgcdpmkpjokaaGreatDoor
