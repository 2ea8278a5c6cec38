/- The walk of the law NlistKinds. -/
import Derived.Test.YtdckfcpjdakjaaaKindsA
import Derived.Lib.SlBytesConst
namespace Go.Proofs.Ytdckfcpjdakjaaa
open Go.RowKit Go.Maps

theorem kent_set (y z : UInt8) (r : List UInt8) : ((u8s (kent y r)).toArray.setIfInBounds 4 (.int .u8 (z.toNat : Int))) = (u8s (kent z r)).toArray := rfl

/-- '[]byte(..)' of a constant, behind one new block. -/
theorem conv_const (w : World) (X : Obj) (C : Array Value) (n c : Nat) :
    (convert 23 23 (.slice (some ⟨w.heap.size + 1, 0, none⟩) n c)).run Try.prog ((w.alloc X).alloc (.cells C 5)) = .ok (.slice (some ⟨w.heap.size + 1, 0, none⟩) n c) ((w.alloc X).alloc (.cells C 5 (C.size, C.size + 1))) := by
  have h := Lib.run_convert_bytes_const (P := Try.prog) (w.alloc X) 23 5 C n c un_bs8 un_u8
  have e : (w.alloc X).heap.size = w.heap.size + 1 := by simp
  rw [e] at h
  exact h

structure KindsRel (w : World) (r : List UInt8) (wr : World) : Prop where
  below : Below w.heap.size w wr
  ent : ∃ y, wr.heap[w.heap.size]? = some (.cells (u8s (kent y r)).toArray 22 (0, 0))
  nam : wr.heap[w.heap.size + 1]? = some (.cells (u8s knames).toArray 5 (5, 6))
  size : w.heap.size + 2 ≤ wr.heap.size

theorem KindsRel.drewN {w : World} {r : List UInt8} {wr : World} (R : KindsRel w r wr) (q : Nat) : KindsRel w r (wr.drewN q) :=
  ⟨below_drewN R.below q, R.ent, R.nam, R.size⟩

set_option maxRecDepth 100000 in
set_option maxHeartbeats 2000000 in
theorem nl_kinds (w : World) (x0 x1 x2 x3 x4 x5 x6 x7 x8 x9 x10 x11 x12 x13 x14 x15 : UInt8) :
    Calls Try.prog 3 #[.agg #[.int .u8 (x0.toNat : Int), .int .u8 (x1.toNat : Int), .int .u8 (x2.toNat : Int), .int .u8 (x3.toNat : Int), .int .u8 (x4.toNat : Int), .int .u8 (x5.toNat : Int), .int .u8 (x6.toNat : Int), .int .u8 (x7.toNat : Int), .int .u8 (x8.toNat : Int), .int .u8 (x9.toNat : Int), .int .u8 (x10.toNat : Int), .int .u8 (x11.toNat : Int), .int .u8 (x12.toNat : Int), .int .u8 (x13.toNat : Int), .int .u8 (x14.toNat : Int), .int .u8 (x15.toNat : Int)]] w fun e w' => e = .returned (.bool true) ∧ Below w.heap.size w w' := by
  obtain ⟨r, hr⟩ : ∃ r, r = [x5, x6, x7, x8, x9, x10, x11, x12, x13, x14, x15] := ⟨_, rfl⟩
  have hrl : r.length = 11 := by rw [hr]; rfl
  have kc := conv_const
  go_enter Try.func3, Try.ntmps3
  go_wp2_with fail
  go_loopw [4] (fun i wr => ∃ k : Nat, k ≤ 256 ∧ i = .int .i64 (k : Int) ∧ KindsRel w r wr) (fun i _ => 256 - (intOf i).toNat)
  case atStart =>
    refine ⟨0, by omega, rfl, ⟨((Below.refl _ _).alloc (Nat.le_refl _) _).alloc (by simp) _, ⟨x4, ?_⟩, heap_alloc2_new w _ _, by simp⟩⟩
    rw [hr]
    exact heap_alloc2_old w _ _
  case round =>
    obtain ⟨k, hk, rfl, R⟩ := hrel
    have hsz := R.size
    by_cases hlt : k < 256
    · obtain ⟨y0, hy0⟩ := R.ent
      obtain ⟨y, hyk⟩ : ∃ y : UInt8, y.toNat = k := ⟨UInt8.ofNat k, by simp; omega⟩
      have hc4 : wr.cell? ⟨w.heap.size, 4, none⟩ = some (.int .u8 (y0.toNat : Int)) := by rw [cell_of_row _ _ 4 _ _ _ hy0]; rfl
      have hf4 : wr.frozen? ⟨w.heap.size, 4, none⟩ = false := frozen_of_row _ _ _ _ _ hy0
      obtain ⟨Wr, hWr⟩ : ∃ Wr, Wr = wr.setCell ⟨w.heap.size, 4, none⟩ (.int .u8 (k : Int)) := ⟨_, rfl⟩
      have hy' : Wr.heap[w.heap.size]? = some (.cells (u8s (kent y r)).toArray 22 (0, 0)) := by
        rw [hWr, heap_setCell_same _ _ _ _ _ _ hy0, ← hyk, kent_set]
      have hn' : Wr.heap[w.heap.size + 1]? = some (.cells (u8s knames).toArray 5 (5, 6)) := by
        rw [hWr, Below.heap_setCell _ _ _ _ (by show w.heap.size + 1 ≠ w.heap.size; omega)]; exact R.nam
      have hb' : Below w.heap.size w Wr := by rw [hWr]; exact R.below.setCell (Nat.le_refl _) _
      have hzW : Wr.heap.size = wr.heap.size := by rw [hWr]; simp [World.setCell]
      have hkl : (kent y r).length = 16 := by simp [kent, hrl]
      have hbs := BS.block hy' (by rw [hkl]; decide)
      rw [hkl] at hbs
      have hcall := nl_all Wr (some ⟨w.heap.size, 0, none⟩) (some ⟨w.heap.size + 1, 0, none⟩) 16 16 5 5 (kent y r) knames 255 hbs (BS.block hn' (by decide))
      rw [hWr] at hcall
      have HK := hid (And.intro hy' (And.intro hn' (And.intro hb' (And.intro hWr (And.intro hzW (And.intro hyk hcall))))))
      have Hr := hid (And.intro hr hrl)
      clear R hy0 hy' hn' hb' hWr hzW hkl hbs hyk hcall hr hrl kc
      go_wp2_with fail
      refine (HK.out.2.2.2.2.2.2).mono ?_
      rintro e w5 ⟨v, rfl, hown, hb5⟩
      rw [← HK.out.2.2.2.1] at hown hb5
      have hz5 : w.heap.size + 2 ≤ w5.heap.size := by have := hb5.size; have := HK.out.2.2.2.2.1; omega
      have hy5 := (hb5.block w.heap.size (by have := HK.out.2.2.2.2.1; omega)).trans HK.out.1
      have hn5 := (hb5.block (w.heap.size + 1) (by have := HK.out.2.2.2.2.1; omega)).trans HK.out.2.1
      have hrel5 : KindsRel w r w5 := ⟨HK.out.2.2.1.trans (hb5.mono HK.out.2.2.1.size), ⟨y, hy5⟩, hn5, hz5⟩
      have hc5 : w5.cell? ⟨w.heap.size, 5, none⟩ = some (.int .u8 (x5.toNat : Int)) := by rw [cell_of_row _ _ 5 _ _ _ hy5, Hr.out.1]; rfl
      have hc6 : w5.cell? ⟨w.heap.size, 6, none⟩ = some (.int .u8 (x6.toNat : Int)) := by rw [cell_of_row _ _ 6 _ _ _ hy5, Hr.out.1]; rfl
      have hss := SS.of_owns hown (by have := (tableM_ok (kent y r) knames 255).2; omega)
      obtain ⟨a5, c5, rfl⟩ := ownsRow_form hown
      have H5 := hid (And.intro hrel5 hss)
      clear hown hb5 hy5 hn5 hrel5 hss
      by_cases h15 : k = 15
      · have hy : y = 15 := UInt8.toNat_inj.1 (by rw [HK.out.2.2.2.2.2.1, h15]; rfl)
        subst h15 hy
        by_cases h0 : x5.toNat = 0
        · have hx5 : ((x5.toNat : Int) == 0) = true := by rw [beq_iff_eq]; omega
          rw [kent_15z r Hr.out.2 (by rw [Hr.out.1]; exact h0)]
          clear h0
          go_wp2
          exact ⟨⟨16, by omega, by go_num, H5.out.1⟩, by simp [intOf]⟩
        · have hx5 : ((x5.toNat : Int) == 0) = false := by rw [beq_eq_false_iff_ne]; omega
          obtain ⟨s, hM, hn, hs, hw⟩ := kent_15 r Hr.out.2 (by rw [Hr.out.1]; exact h0)
          obtain ⟨nl, ss, sv, sw⟩ := s
          simp only at hn hs hw
          rw [Hr.out.1] at hw
          have hw : sw = decide (128 ≤ (x6.toNat : Int)) := hw.trans (weak_byte x6 x7)
          subst hn hw
          have hss := H5.out.2
          rw [hM] at hss
          rw [hM]
          obtain ⟨g, off, rfl, hcs⟩ := hss.at (by simp)
          obtain ⟨q0, q1, q2, q3⟩ := hcs 0 _ rfl
          have hne : (ss == 0) = false := by rw [beq_eq_false_iff_ne]; exact hs
          have q0 : w5.cell? ⟨g, off, none⟩ = some (.string (mkS [97, 98])) := by simpa using q0
          have q0 : w5.cell? ⟨g, off, none⟩ = some (.string ⟨#[97, 98]⟩) := q0
          have q1 : w5.cell? ⟨g, off + 1, none⟩ = some (.int .i64 ss) := by simpa using q1
          have q3 : w5.cell? ⟨g, off + 3, none⟩ = some (.bool (decide (128 ≤ (x6.toNat : Int)))) := by simpa using q3
          clear hss hcs hM hs q2 h0
          go_wp2
          go_quiet (fail)
          go_wp2
          exact ⟨⟨16, by omega, rfl, H5.out.1.drewN _⟩, by simp [intOf]⟩
      · by_cases h3 : k = 3
        · have hy : y = 3 := UInt8.toNat_inj.1 (by rw [HK.out.2.2.2.2.2.1, h3]; rfl)
          subst h3 hy
          obtain ⟨s, hM, hn, hs, hw⟩ := kent_3 r Hr.out.2
          obtain ⟨nl, ss, sv, sw⟩ := s
          simp only at hn hs hw
          rw [Hr.out.1] at hw
          have hw : sw = decide (128 ≤ (x6.toNat : Int)) := hw.trans (weak_byte x6 x7)
          subst hn hw hs
          have hss := H5.out.2
          rw [hM] at hss
          rw [hM]
          obtain ⟨g, off, rfl, hcs⟩ := hss.at (by simp)
          obtain ⟨q0, q1, q2, q3⟩ := hcs 0 _ rfl
          have q0 : w5.cell? ⟨g, off, none⟩ = some (.string (mkS [97, 98])) := by simpa using q0
          have q0 : w5.cell? ⟨g, off, none⟩ = some (.string ⟨#[97, 98]⟩) := q0
          have q1 : w5.cell? ⟨g, off + 1, none⟩ = some (.int .i64 0) := by simpa using q1
          have q3 : w5.cell? ⟨g, off + 3, none⟩ = some (.bool (decide (128 ≤ (x6.toNat : Int)))) := by simpa using q3
          clear hss hcs hM q2 h15
          go_wp2
          go_quiet (fail)
          go_wp2
          exact ⟨⟨4, by omega, rfl, H5.out.1.drewN _⟩, by simp [intOf]⟩
        · have hM := kent_no y r Hr.out.2 (by rw [HK.out.2.2.2.2.2.1]; omega)
          rw [hM]
          have ht := kind_tests ⟨k, hlt⟩
          simp only at ht
          rw [decide_eq_false (show ¬ (k = 15 ∨ k = 3) by omega)] at ht
          clear hM
          by_cases t1 : (bits BinOp.and IntKind.i64 (k : Int) 1 == 1) = true
          · by_cases t2 : (bits BinOp.and IntKind.i64 (k : Int) 240 == 0) = true
            · rw [t1, t2, Bool.true_and, Bool.true_and, Bool.or_eq_false_iff] at ht
              obtain ⟨t3, t4⟩ := ht
              go_wp2
              exact ⟨⟨k + 1, by omega, by go_num, H5.out.1⟩, by simp [intOf]; omega⟩
            · have t2 : (bits BinOp.and IntKind.i64 (k : Int) 240 == 0) = false := by simpa using t2
              clear ht
              go_wp2
              exact ⟨⟨k + 1, by omega, by go_num, H5.out.1⟩, by simp [intOf]; omega⟩
          · have t1 : (bits BinOp.and IntKind.i64 (k : Int) 1 == 1) = false := by simpa using t1
            clear ht
            go_wp2
            exact ⟨⟨k + 1, by omega, by go_num, H5.out.1⟩, by simp [intOf]; omega⟩
    · obtain rfl : k = 256 := by omega
      have Hb := hid R.below
      have hsz := R.below.size
      clear R kc
      go_wp2_with fail
      refine (nl_known _).mono ?_
      rintro e w5 ⟨rfl, hb5⟩
      have H5 := hid (Hb.out.trans (hb5.mono hsz))
      clear hb5
      go_wp2
      go_ret
      exact ⟨rfl, H5.out⟩

end Go.Proofs.Ytdckfcpjdakjaaa
