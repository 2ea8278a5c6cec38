/- The program's writer: numbers, names, blobs. -/
import Derived.Test.YtfkpbgookilhjaaGreatDoorZScA
import Derived.Deep.RegionLaw
import Derived.Deep.DeepCutAuto
namespace Go.Proofs.YtfkpbgookilhjaaGreatDoor
set_option linter.unusedSimpArgs false
set_option linter.unusedVariables false
open Go.RowKit

/-- Behind a call of a writer. -/
def WrEnd (w : World) (c B : Nat) (v : Value) (ys : List UInt8) (e : Ending) (w' : World) : Prop := e = .returned (.tuple #[]) ∧ ∃ v', Wr w' c B v' ys ∧ Wrote w w' c v v'

theorem Wr.cell {w : World} {c B : Nat} {v : Value} {xs : List UInt8} (h : Wr w c B v xs) : w.cell? ⟨c, 0, none⟩ = some v ∧ w.frozen? ⟨c, 0, none⟩ = false :=
  ⟨cell_of_row w c 0 _ _ _ h.box, frozen_of_row w c 0 _ _ h.box⟩
theorem OB.form3 {w : World} {B : Nat} {e : TypeId} {v : Value} {l : List UInt8} (h : OB w B e v l) : ∃ p n c, v = .slice p n c := by obtain ⟨p, c, h⟩ := h.form; exact ⟨p, _, c, h⟩
theorem Wr.lt {w : World} {c B : Nat} {v : Value} {xs : List UInt8} (h : Wr w c B v xs) : c < w.heap.size := (Array.getElem?_eq_some_iff.1 h.box).1

set_option maxHeartbeats 1000000 in
theorem w_number (w : World) (c B : Nat) (v : Value) (xs : List UInt8) (n size : Nat) (m : Int) (hm : m = size) (hs : size ≤ 8) (hn : n < 2 ^ 64) (h : Wr w c B v xs) (hlen : xs.length + size ≤ 140737488355328) (hB : B ≤ w.heap.size) :
    Calls Tryz.prog 22 #[.pointer (some ⟨c, 0, none⟩), .int .u64 n, .int .i64 m] w (WrEnd w c B v (xs ++ lowB n size)) := by
  subst hm
  obtain ⟨i, R⟩ := u8rowS
  have H := hid (And.intro R h)
  clear R h
  go_enter Tryz.func22, Tryz.ntmps22
  go_wp2_with fail
  go_loopw [8] (fun i wr => ∃ k : Nat, k ≤ size ∧ i = .int .i64 k ∧ ∃ v', Wr wr c B v' (xs ++ lowB n k) ∧ Wrote w wr c v v') (fun i _ => size - (intOf i).toNat)
  case atStart => exact ⟨0, Nat.zero_le _, rfl, v, by rw [lowB, List.append_nil]; exact H.out.2, Wrote.refl _ _ _⟩
  case round =>
    obtain ⟨k, hk, rfl, v', hwr, hwo⟩ := hrel
    have hz := hwo.size
    by_cases hlt : k < size
    · obtain ⟨X, hX⟩ : ∃ X, X = xs ++ lowB n k := ⟨_, rfl⟩
      rw [← hX] at hwr
      have hXl := hid (show X.length = xs.length + k by rw [hX, List.length_append, lowB_length])
      obtain ⟨p, cap, rfl⟩ := hwr.own.form
      obtain ⟨x0, xf⟩ := hwr.cell
      have hlc := hwr.lt
      have hd1 : decide ((k : Int) < (size : Int)) = true := by simp; omega
      have hw1 : IntKind.i64.wrap (8 * (k : Int)) = 8 * (k : Int) := IntWalk.i64_in _ (by omega)
      obtain ⟨y, hy⟩ : ∃ y : UInt8, y = UInt8.ofNat (n / 256 ^ k % 256) := ⟨_, rfl⟩
      have hby : IntKind.u8.wrap ((n : Int) / 2 ^ (8 * (k : Int)).toNat) = (y.toNat : Int) := by
        rw [show (8 * (k : Int)).toNat = 8 * k by omega, IntKind.wrap_u8, hy]; exact put_byteS n k
      have Hr := hid (And.intro hwr (And.intro hwo (And.intro hX (And.intro hby hy))))
      clear hwr hwo hX hby hy
      go_upto_region 3 with fail
      go_region_law (refine step_bytes H.out.1 _ rfl _ _ _ rfl B (.slice p X.length cap) X rfl (owns_drew (Hr.out.1.own.below ((Below.refl _ _).alloc (Nat.le_refl _) _))) _ [y] rfl (src_byteD wr un_bsS _ _ Hr.out.2.2.2.1 _ rfl) (by have := hXl.out; simp; omega) (by simp; omega) ?_; intro v2 W2 hown2 hg2; have hg2 : Grew wr W2 (.slice p X.length cap) v2 := Grew.under (((Below.refl _ _).alloc (Nat.le_refl _) _).drew) hg2; have x0' : W2.cell? ⟨c, 0, none⟩ = some (.slice p X.length cap) := hg2.cell x0 Hr.out.1.ne; have xf' : W2.frozen? ⟨c, 0, none⟩ = false := frozen_of_row W2 c 0 _ _ ((hg2.block hlc Hr.out.1.ne).trans Hr.out.1.box); obtain ⟨p2, n2, c2, hv2⟩ := OB.form3 hown2; subst hv2; have H2 := hid (And.intro hown2 hg2); clear hown2 hg2)
      all_goals
        go_wp2_with fail
        refine ⟨⟨k + 1, by omega, by go_num, .slice p2 n2 c2, ?_, ?_⟩, by simp [intOf]; omega⟩
        · rw [lowB_snoc, ← List.append_assoc, ← Hr.out.2.2.1, ← Hr.out.2.2.2.2]; exact Hr.out.1.put H2.out.2 H2.out.1
        · exact Hr.out.2.1.trans (Wrote.put H2.out.2 hlc)
    · have hd1 : decide ((k : Int) < (size : Int)) = false := by simp; omega
      have Hr := hid (And.intro hwr hwo)
      clear hwr hwo
      go_wp2_with fail
      go_end0
      obtain rfl : k = size := by omega
      exact ⟨rfl, _, Hr.out.1, Hr.out.2⟩

set_option maxHeartbeats 1000000 in
theorem w_name (w : World) (c B : Nat) (v : Value) (xs s : List UInt8) (h : Wr w c B v xs) (hlen : xs.length + 2 + s.length ≤ 140737488355328) (hB : B ≤ w.heap.size) :
    Calls Tryz.prog 23 #[.pointer (some ⟨c, 0, none⟩), .string (mkS s)] w (WrEnd w c B v (xs ++ nmB s)) := by
  obtain ⟨i, R⟩ := u8rowS
  have hw1 : IntKind.u64.wrap (s.length : Int) = s.length := IntWalk.u64_in _ (by omega)
  have H := hid (And.intro R h)
  clear R h
  go_enter Tryz.func23, Tryz.ntmps23
  go_wp2_with fail
  refine (w_number _ c B v xs s.length 2 _ rfl (by omega) (by omega) H.out.2 (by omega) hB).mono ?_
  rintro e w1 ⟨rfl, v1, hwr, hwo⟩
  have hz := hwo.size
  obtain ⟨X, hX⟩ : ∃ X, X = xs ++ lowB s.length 2 := ⟨_, rfl⟩
  rw [← hX] at hwr
  have HX := hid (And.intro hX (show X.length = xs.length + 2 by rw [hX, List.length_append, lowB_length]))
  clear hX
  obtain ⟨p, cap, rfl⟩ := hwr.own.form
  obtain ⟨x0, xf⟩ := hwr.cell
  have hlc := hwr.lt
  have Hr := hid (And.intro hwr hwo)
  clear hwr hwo
  go_wp2_with (at_builtin; refine wpList_bytes H.out.1 _ rfl _ _ _ rfl B (.slice p X.length cap) X rfl Hr.out.1.own _ s rfl (Src.ofMkS _ un_strS s) ?c3 ?c4 ?_)
  case c3 => have := HX.out.2; omega
  case c4 => omega
  intro v2 W2 hown2 hg2
  have x0' : W2.cell? ⟨c, 0, none⟩ = some (.slice p X.length cap) := hg2.cell x0 Hr.out.1.ne
  have xf' : W2.frozen? ⟨c, 0, none⟩ = false := frozen_of_row W2 c 0 _ _ ((hg2.block hlc Hr.out.1.ne).trans Hr.out.1.box)
  obtain ⟨p2, n2, c2, hv2⟩ := OB.form3 hown2
  subst hv2
  have H2 := hid (And.intro hown2 hg2)
  clear hown2 hg2
  go_wp2_with fail
  go_end0
  exact ⟨rfl, .slice p2 n2 c2, by rw [nmB, ← List.append_assoc, ← HX.out.1]; exact Hr.out.1.put H2.out.2 H2.out.1, Hr.out.2.trans (Wrote.put H2.out.2 hlc)⟩

set_option maxHeartbeats 1000000 in
theorem w_blob (w : World) (c B : Nat) (v : Value) (xs s : List UInt8) (q : Option Addr) (qc : Nat) (hx : BS w (.slice q s.length qc) s) (hq : ∀ k, inBlk (.slice q s.length qc) k → k ≠ c ∧ v.ownBlock ≠ some k) (h : Wr w c B v xs) (hlen : xs.length + 4 + s.length ≤ 140737488355328) (hB : B ≤ w.heap.size) :
    Calls Tryz.prog 27 #[.pointer (some ⟨c, 0, none⟩), .slice q s.length qc] w (WrEnd w c B v (xs ++ blB s)) := by
  obtain ⟨i, R⟩ := u8rowS
  have hw1 : IntKind.u64.wrap (s.length : Int) = s.length := IntWalk.u64_in _ (by omega)
  have H := hid (And.intro R (And.intro h (And.intro hx hq)))
  clear R h hx hq
  go_enter Tryz.func27, Tryz.ntmps27
  go_wp2_with fail
  refine (w_number _ c B v xs s.length 4 _ rfl (by omega) (by omega) H.out.2.1 (by omega) hB).mono ?_
  rintro e w1 ⟨rfl, v1, hwr, hwo⟩
  have hz := hwo.size
  obtain ⟨X, hX⟩ : ∃ X, X = xs ++ lowB s.length 4 := ⟨_, rfl⟩
  rw [← hX] at hwr
  have HX := hid (And.intro hX (show X.length = xs.length + 4 by rw [hX, List.length_append, lowB_length]))
  clear hX
  have Hsrc := hid (Src.ofBS (P := Tryz.prog) un_bsS (H.out.2.2.1.wrote hwo H.out.2.2.2))
  obtain ⟨p, cap, rfl⟩ := hwr.own.form
  obtain ⟨x0, xf⟩ := hwr.cell
  have hlc := hwr.lt
  have Hr := hid (And.intro hwr hwo)
  clear hwr hwo
  go_wp2_with (at_builtin; refine wpList_bytes H.out.1 _ rfl _ _ _ rfl B (.slice p X.length cap) X rfl Hr.out.1.own _ s rfl Hsrc.out ?c3 ?c4 ?_)
  case c3 => have := HX.out.2; omega
  case c4 => omega
  intro v2 W2 hown2 hg2
  have x0' : W2.cell? ⟨c, 0, none⟩ = some (.slice p X.length cap) := hg2.cell x0 Hr.out.1.ne
  have xf' : W2.frozen? ⟨c, 0, none⟩ = false := frozen_of_row W2 c 0 _ _ ((hg2.block hlc Hr.out.1.ne).trans Hr.out.1.box)
  obtain ⟨p2, n2, c2, hv2⟩ := OB.form3 hown2
  subst hv2
  have H2 := hid (And.intro hown2 hg2)
  clear hown2 hg2
  go_wp2_with fail
  go_end0
  exact ⟨rfl, .slice p2 n2 c2, by rw [blB, ← List.append_assoc, ← HX.out.1]; exact Hr.out.1.put H2.out.2 H2.out.1, Hr.out.2.trans (Wrote.put H2.out.2 hlc)⟩
end Go.Proofs.YtfkpbgookilhjaaGreatDoor
