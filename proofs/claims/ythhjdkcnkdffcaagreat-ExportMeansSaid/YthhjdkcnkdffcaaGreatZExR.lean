/- The reference's chapters 6 and 11 at the laws' image: Within, Part, Hole, Low, High, Sections, May. -/
import Derived.Test.YthhjdkcnkdffcaaGreatZExB
import Derived.Test.YthhjdkcnkdffcaaGreatZExM
import Derived.Test.YthhjdkcnkdffcaaGreatZRfI
import Derived.Test.YthhjdkcnkdffcaaGreatZRfL
import Derived.Test.YthhjdkcnkdffcaaGreatZQRefC
import Derived.Test.YthhjdkcnkdffcaaGreatZMkH
namespace Go.Proofs.YthhjdkcnkdffcaaGreat
set_option linter.unusedSimpArgs false
set_option linter.unusedVariables false
open Go.RowKit
attribute [local go_sem ↓] old_img
attribute [local go_sem] big_img

set_option maxHeartbeats 400000 in
theorem rx_within (w : World) (off size all : Nat) (h : off + size ≤ all) (ha : all < 18446744073709551616) : Calls Tryz.prog 45 #[.int .u64 (off : Int), .int .u64 (size : Int), .int .u64 (all : Int)] w fun e w' => e = .returned (.bool true) ∧ w = w' := by
  have h1 : decide (size ≤ all) = true := decide_eq_true (by omega)
  have h1' : decide ((size : Int) ≤ (all : Int)) = true := decide_eq_true (by omega)
  have h2 : IntKind.u64.wrap ((all : Int) - (size : Int)) = ((all - size : Nat) : Int) := by
    show ((all : Int) - (size : Int)) % 18446744073709551616 = _
    omega
  have h3 : decide (off ≤ all - size) = true := decide_eq_true (by omega)
  go_enter Tryz.func45, Tryz.ntmps45
  go_wp2_with fail
  go_ret
  exact ⟨rfl, rfl⟩

set_option maxHeartbeats 800000 in
set_option maxRecDepth 4000 in
theorem rx_part (w : World) (p : Option Addr) (n cap : Nat) (l : List UInt8) (off size : Nat) (h : BS w (.slice p n cap) l) (hn : n ≤ 9000000) (hle : off + size ≤ n) :
    Calls Tryz.prog 33 #[.slice p n cap, .agg #[.int .u64 (off : Int), .int .u64 (size : Int)]] w fun e w' => ∃ q m c, e = .returned (.slice q m c) ∧ BS w' (.slice q m c) ((l.drop off).take size) ∧ Below w.heap.size w w' := by
  have hln := h.len
  have hcap := h.cap
  have hb0 : Below w.heap.size w (w.alloc (.cells #[.int .u64 (off : Int), .int .u64 (size : Int)] 36)) := (Below.refl _ _).alloc (Nat.le_refl _) _
  have hw : IntKind.u64.wrap (n : Int) = (n : Int) := by
    show (n : Int) % 18446744073709551616 = _
    omega
  have hw2 : IntKind.u64.wrap ((off : Int) + (size : Int)) = (off : Int) + (size : Int) := by
    show ((off : Int) + (size : Int)) % 18446744073709551616 = _
    omega
  have hsl : ∀ w : World, (Instr.slice 27 (.slice p n cap) (some (.int .u64 (off : Int))) (some (.int .u64 ((off : Int) + (size : Int)))) none).run Tryz.prog w = .ok (.slice (subA p off cap) size (cap - off)) w := by
    intro w
    rw [run_sub2 (P := Tryz.prog) (w := w) (t := 27) p n cap und_u8P (size_u8P w) .u64 .u64 (off : Int) ((off : Int) + (size : Int)) (by omega) (by omega) (by omega)]
    have e1 : ((off : Int) + (size : Int)).toNat = off + size := by omega
    rw [e1]
    simp only [Int.toNat_natCast, Nat.add_sub_cancel_left]
  subst hln
  have hsb := sub_bs h (lo := off) (hi := off + size) (m := cap) (by omega) hle (by omega) (Nat.le_refl _)
  rw [Nat.add_sub_cancel_left] at hsb
  have h2 := hsb.below hb0
  have H := hid (And.intro h2 hb0)
  clear h hb0 hsb h2
  go_enter Tryz.func33, Tryz.ntmps33
  go_wp2_with (first | (go_at_call 45; refine (rx_within _ off size l.length hle (by omega)).mono ?_; rintro e w1 ⟨rfl, rfl⟩))
  go_ret
  exact ⟨_, _, _, rfl, H.out.1, H.out.2⟩

set_option maxHeartbeats 400000 in
theorem rx_hole (w : World) (s : Seg) : Calls Tryz.prog 53 #[s.v] w fun e w' => e = .returned (.bool (holeM s)) ∧ Below w.heap.size w w' := by
  have hb : Below w.heap.size w (w.alloc (.cells s.cells 74)) := (Below.refl _ _).alloc (Nat.le_refl _) _
  have H := hid hb
  clear hb
  unfold Seg.v
  cases hp : s.prot == 0 with
  | false =>
    have hr : holeM s = false := by unfold holeM; rw [hp]; rfl
    rw [hr]
    clear hr
    go_enter Tryz.func53, Tryz.ntmps53
    go_wp2_with fail
    go_ret
    exact ⟨rfl, H.out⟩
  | true =>
    have hr : holeM s = (s.fsize == 0) := by unfold holeM; rw [hp]; rfl
    have hd : ((s.fsize : Int) == 0) = (s.fsize == 0) := by
      rw [Bool.eq_iff_iff, beq_iff_eq, beq_iff_eq]; omega
    rw [hr]
    obtain ⟨R, hR⟩ : ∃ R, R = (s.fsize == 0) := ⟨_, rfl⟩
    rw [← hR] at hd ⊢
    clear hr hR
    go_enter Tryz.func53, Tryz.ntmps53
    go_wp2_with fail
    go_ret
    exact ⟨rfl, H.out⟩

theorem hole_segP (q : Option Addr) : holeM (segP q) = false := rfl

set_option maxHeartbeats 2000000 in
set_option maxRecDepth 4000 in
theorem rx_low (w : World) (I : Array Value) (nt ns nr : Nat) (h : PlainI w I nt ns nr) : Calls Tryz.prog 35 #[.agg I] w fun e w' => e = .returned (.int .u64 4096) ∧ Below w.heap.size w w' := by
  have hi := OfIn.start h
  obtain ⟨v, q, g4, hsg⟩ := h.segs
  obtain ⟨pv, cv, hv⟩ := hsg.form
  have hl1 : [segP q].length = 1 := rfl
  rw [hl1] at hv
  subst hv
  have H := hid (And.intro hi (And.intro hsg g4))
  clear hi hsg h g4
  go_enter Tryz.func35, Tryz.ntmps35
  go_wp2_with fail
  go_loopw [3] (fun i wr => i = .int .i64 0 ∧ OfIn w wr I nt ns nr) (fun i _ => 1 - (intOf i).toNat)
  case atStart => exact ⟨rfl, H.out.1⟩
  case round =>
    obtain ⟨rfl, hi⟩ := hrel
    have c4 := (cell_of_row _ _ 4 _ _ _ hi.img).trans H.out.2.2
    obtain ⟨g, off, rfl, hcs⟩ := (H.out.2.1.below hi.below).at (by simp)
    obtain ⟨x0, x1, x2, x3, x4, x5, x6⟩ := hcs 0 _ rfl
    rw [Nat.zero_mul, Nat.add_zero] at x0 x1 x2 x3 x4 x5 x6
    have hc := rx_hole wr (segP q)
    rw [hole_segP] at hc
    unfold segP at x0 x1 x2 x3 x4 x5 x6
    unfold segP Seg.v at hc
    have Hi := hid (And.intro hi hc)
    clear hi hcs hc
    go_wp2_with fail
    refine Hi.out.2.mono ?_
    rintro e w1 ⟨rfl, hb1⟩
    have y1 := (hb1.cell (World.block_lt_of_cell? wr _ x1)).trans x1
    have y4 := (hb1.cell (World.block_lt_of_cell? wr _ c4)).trans c4
    have H1 := hid (Hi.out.1.next hb1)
    clear hb1 x0 x1 x2 x3 x4 x5 x6 c4
    go_wp2_with fail
    go_ret
    exact ⟨rfl, H1.out.below⟩

set_option maxHeartbeats 2000000 in
set_option maxRecDepth 4000 in
theorem rx_high (w : World) (I : Array Value) (nt ns nr : Nat) (h : PlainI w I nt ns nr) : Calls Tryz.prog 46 #[.agg I] w fun e w' => e = .returned (.int .u64 8192) ∧ Below w.heap.size w w' := by
  have hi := OfIn.start h
  obtain ⟨v, q, g4, hsg⟩ := h.segs
  obtain ⟨pv, cv, hv⟩ := hsg.form
  have hl1 : [segP q].length = 1 := rfl
  rw [hl1] at hv
  subst hv
  have hw : IntKind.u64.wrap ((4096 : Int) + 4096) = 8192 := by decide
  have hw2 : IntKind.u64.wrap 8192 = 8192 := by decide
  have H := hid (And.intro hi (And.intro hsg g4))
  clear hi hsg h g4
  go_enter Tryz.func46, Tryz.ntmps46
  go_wp2_with fail
  go_loopw [3, 4] (fun n i wr => ∃ k : Nat, k ≤ 1 ∧ i = .int .i64 (k : Int) ∧ n = .int .u64 (8192 * k : Int) ∧ OfIn w wr I nt ns nr) (fun _ i _ => 1 - (intOf i).toNat)
  case atStart => exact ⟨0, by omega, rfl, rfl, H.out.1⟩
  case round =>
    obtain ⟨k, hk, rfl, rfl, hi⟩ := hrel
    have c4 := (cell_of_row _ _ 4 _ _ _ hi.img).trans H.out.2.2
    by_cases hk0 : k = 0
    · subst hk0
      obtain ⟨g, off, rfl, hcs⟩ := (H.out.2.1.below hi.below).at (by simp)
      obtain ⟨x0, x1, x2, x3, x4, x5, x6⟩ := hcs 0 _ rfl
      rw [Nat.zero_mul, Nat.add_zero] at x0 x1 x2 x3 x4 x5 x6
      have hbn : Below wr.heap.size wr (wr.alloc (.cells (segP q).cells 74)) := (Below.refl _ _).alloc (Nat.le_refl _) _
      have hc := rx_hole (wr.alloc (.cells (segP q).cells 74)) (segP q)
      have hkb := heap_alloc_new wr (.cells (segP q).cells 74)
      rw [hole_segP] at hc
      unfold segP at x0 x1 x2 x3 x4 x5 x6
      have Hi := hid (And.intro (hi.next hbn) (And.intro hc hkb))
      unfold segP Seg.v Seg.cells at Hi
      dsimp only at Hi
      clear hi hcs hc hkb hbn
      go_wp2_with fail
      refine Hi.out.2.1.mono ?_
      rintro e w1 ⟨rfl, hb1⟩
      have hk1 := (hb1.block _ (by simp)).trans Hi.out.2.2
      have y1 : w1.cell? ⟨wr.heap.size, 1, none⟩ = some (.int .u64 4096) := cell_of_row _ _ 1 _ _ _ hk1
      have y2 : w1.cell? ⟨wr.heap.size, 2, none⟩ = some (.int .u64 4096) := cell_of_row _ _ 2 _ _ _ hk1
      have H1 := hid (Hi.out.1.next hb1)
      clear hb1 x0 x1 x2 x3 x4 x5 x6 c4 hk1
      go_wp2_with fail
      exact ⟨⟨1, by omega, rfl, rfl, H1.out⟩, by simp [intOf]⟩
    · obtain rfl : k = 1 := by omega
      have Hi := hid hi
      clear hi
      go_wp2_with fail
      go_ret
      exact ⟨rfl, Hi.out.below⟩

set_option maxHeartbeats 2000000 in
set_option maxRecDepth 4000 in
theorem rx_sections (w : World) (I : Array Value) (nt ns nr : Nat) (h : PlainI w I nt ns nr) : Calls Tryz.prog 49 #[.agg I] w fun e w' => e = .returned (.int .i64 1) ∧ Below w.heap.size w w' := by
  have hi := OfIn.start h
  obtain ⟨v, q, g4, hsg⟩ := h.segs
  obtain ⟨pv, cv, hv⟩ := hsg.form
  have hl1 : [segP q].length = 1 := rfl
  rw [hl1] at hv
  subst hv
  have H := hid (And.intro hi (And.intro hsg g4))
  clear hi hsg h g4
  go_enter Tryz.func49, Tryz.ntmps49
  go_wp2_with fail
  go_loopw [3, 4] (fun n i wr => ∃ k : Nat, k ≤ 1 ∧ i = .int .i64 (k : Int) ∧ n = .int .i64 (k : Int) ∧ OfIn w wr I nt ns nr) (fun _ i _ => 1 - (intOf i).toNat)
  case atStart => exact ⟨0, by omega, rfl, rfl, H.out.1⟩
  case round =>
    obtain ⟨k, hk, rfl, rfl, hi⟩ := hrel
    have c4 := (cell_of_row _ _ 4 _ _ _ hi.img).trans H.out.2.2
    by_cases hk0 : k = 0
    · subst hk0
      obtain ⟨g, off, rfl, hcs⟩ := (H.out.2.1.below hi.below).at (by simp)
      obtain ⟨x0, x1, x2, x3, x4, x5, x6⟩ := hcs 0 _ rfl
      rw [Nat.zero_mul, Nat.add_zero] at x0 x1 x2 x3 x4 x5 x6
      unfold segP at x0 x1 x2 x3 x4 x5 x6
      have Hi := hid hi
      clear hi hcs
      go_wp2_with fail
      exact ⟨⟨1, by omega, rfl, rfl, Hi.out⟩, by simp [intOf]⟩
    · obtain rfl : k = 1 := by omega
      have Hi := hid hi
      clear hi
      go_wp2_with fail
      go_ret
      exact ⟨rfl, Hi.out.below⟩
end Go.Proofs.YthhjdkcnkdffcaaGreat

namespace Go.Proofs.YthhjdkcnkdffcaaGreat
set_option linter.unusedSimpArgs false
set_option linter.unusedVariables false
open Go.RowKit
attribute [local go_sem ↓] old_img
attribute [local go_sem] big_img

set_option maxHeartbeats 2000000 in
theorem rx_may (w : World) (I : Array Value) (nt ns nr : Nat) (x : Exp) (h : PlainI w I nt ns nr) :
    Calls Tryz.prog 31 #[.agg I, .agg x.cells.toArray] w fun e w' => e = .returned (.int .i64 (mayX x : Int)) ∧ Below w.heap.size w w' := by
  obtain ⟨X, hX⟩ : ∃ X, X = x.cells.toArray := ⟨_, rfl⟩
  rw [← hX]
  have hi := MayIn.start X h
  have hm : ∀ m : Nat, mayX x = m → Ending.returned (Value.int .i64 (m : Int)) = .returned (.int .i64 (mayX x : Int)) := fun m e => by rw [e]
  have H := hid (And.intro h (And.intro hi (And.intro hX hm)))
  have hw : IntKind.u64.wrap ((8192 : Int) - 4096) = 4096 := by decide
  have hw2 : IntKind.u64.wrap 4096 = 4096 := by decide
  clear h hi hX hm
  go_enter Tryz.func31, Tryz.ntmps31
  go_upto_region 1 with fail
  have hi := H.out.2.1.drew
  go_cut [5] (fun t5 wx => t5 = .int .u64 4096 ∧ MayIn w wx I X nt ns nr)
  case first =>
    go_region_held3 (fun w' => rowA w' ⟨w.heap.size, 0, none⟩ 24 = some I) (exact hi.all)
      (first
        | (go_at_call 46; (with_reducible refine (rx_high _ I nt ns nr hi.plain).mono ?_); rintro e w1 ⟨rfl, hb⟩; have hi := hi.next hb; clear hb)
        | (go_at_call 35; (with_reducible refine (rx_low _ I nt ns nr hi.plain).mono ?_); rintro e w1 ⟨rfl, hb⟩; have hi := hi.next hb; clear hb)
        | fail "no call")
    all_goals
      go_wp2_with fail
      go_meet
      exact ⟨rfl, hi⟩
  case rest =>
    obtain ⟨rfl, hi⟩ := hcut
    obtain ⟨c0, c1, c2, c3, c4, c5, c6⟩ := exp_at x H.out.2.2.1 hi.exp
    obtain ⟨qd, cd⟩ := hi.deps
    have Hi := hid hi
    have hm := H.out.2.2.2
    clear hi hw hw2
    have Hm := hid hm
    clear hm
    by_cases k4 : x.kind = 4
    · have b4 : (x.kind == 4) = true := by rw [beq_iff_eq]; exact k4
      by_cases v4 : 4096 ≤ x.value
      · have d1 : decide ((4096 : Int) ≤ (x.value : Int)) = true := decide_eq_true (by omega)
        have d2 : decide (4096 ≤ x.value) = true := decide_eq_true v4
        have e := Hm.out 4 (by unfold mayX; rw [if_pos k4, if_pos (.inl v4)])
        have He := hid e
        clear e
        go_wp2_with fail
        go_ret
        exact ⟨He.out, Hi.out.below⟩
      · have d1 : decide ((4096 : Int) ≤ (x.value : Int)) = false := decide_eq_false (by omega)
        have d2 : decide (4096 ≤ x.value) = false := decide_eq_false v4
        by_cases r4 : 4096 ≤ x.resolver
        · have d3 : decide ((4096 : Int) ≤ (x.resolver : Int)) = true := decide_eq_true (by omega)
          have d4 : decide (4096 ≤ x.resolver) = true := decide_eq_true r4
          have e := Hm.out 4 (by unfold mayX; rw [if_pos k4, if_pos (.inr r4)])
          have He := hid e
          clear e
          go_wp2_with fail
          go_ret
          exact ⟨He.out, Hi.out.below⟩
        · have d3 : decide ((4096 : Int) ≤ (x.resolver : Int)) = false := decide_eq_false (by omega)
          have d4 : decide (4096 ≤ x.resolver) = false := decide_eq_false r4
          have e := Hm.out 0 (by unfold mayX; rw [if_pos k4, if_neg (by omega)])
          have He := hid e
          clear e
          go_wp2_with fail
          go_ret
          exact ⟨He.out, Hi.out.below⟩
    · have b4 : (x.kind == 4) = false := by rw [beq_eq_false_iff_ne]; exact k4
      by_cases k1 : x.kind = 1
      · have b1 : (x.kind == 1) = true := by rw [beq_iff_eq]; exact k1
        by_cases v4 : 4096 ≤ x.value
        · have d1 : decide ((4096 : Int) ≤ (x.value : Int)) = true := decide_eq_true (by omega)
          have d2 : decide (4096 ≤ x.value) = true := decide_eq_true v4
          have e := Hm.out 4 (by unfold mayX; rw [if_neg k4, if_pos k1, if_pos v4])
          have He := hid e
          clear e
          go_wp2_with fail
          go_ret
          exact ⟨He.out, Hi.out.below⟩
        · have d1 : decide ((4096 : Int) ≤ (x.value : Int)) = false := decide_eq_false (by omega)
          have d2 : decide (4096 ≤ x.value) = false := decide_eq_false v4
          have e := Hm.out 0 (by unfold mayX; rw [if_neg k4, if_pos k1, if_neg v4])
          have He := hid e
          clear e
          go_wp2_with fail
          go_ret
          exact ⟨He.out, Hi.out.below⟩
      · have b1 : (x.kind == 1) = false := by rw [beq_eq_false_iff_ne]; exact k1
        by_cases k3 : x.kind = 3
        · have b3 : (x.kind == 3) = true := by rw [beq_iff_eq]; exact k3
          by_cases o0 : x.ordinal = 0
          · have d1 : ((x.ordinal : Int) == 0) = true := by rw [o0]; rfl
            have e := Hm.out 22 (by unfold mayX; rw [if_neg k4, if_neg k1, if_pos k3, if_pos (by omega)])
            have He := hid e
            clear e
            go_wp2_with fail
            go_ret
            exact ⟨He.out, Hi.out.below⟩
          · have d1 : ((x.ordinal : Int) == 0) = false := by rw [beq_eq_false_iff_ne]; omega
            by_cases o1 : 1 < x.ordinal
            · have d3 : decide ((1 : Int) < (x.ordinal : Int)) = true := decide_eq_true (by omega)
              have d4 : decide (1 < x.ordinal) = true := decide_eq_true o1
              have e := Hm.out 22 (by unfold mayX; rw [if_neg k4, if_neg k1, if_pos k3, if_pos (by omega)])
              have He := hid e
              clear e
              go_wp2_with fail
              go_ret
              exact ⟨He.out, Hi.out.below⟩
            · have d3 : decide ((1 : Int) < (x.ordinal : Int)) = false := decide_eq_false (by omega)
              have d4 : decide (1 < x.ordinal) = false := decide_eq_false o1
              have e := Hm.out 0 (by unfold mayX; rw [if_neg k4, if_neg k1, if_pos k3, if_neg (by omega)])
              have He := hid e
              clear e
              go_wp2_with fail
              go_ret
              exact ⟨He.out, Hi.out.below⟩
        · have b3 : (x.kind == 3) = false := by rw [beq_eq_false_iff_ne]; exact k3
          have e := Hm.out 0 (by unfold mayX; rw [if_neg k4, if_neg k1, if_neg k3])
          have He := hid e
          clear e
          go_wp2_with fail
          go_ret
          exact ⟨He.out, Hi.out.below⟩

end Go.Proofs.YthhjdkcnkdffcaaGreat

namespace Go.Proofs.YthhjdkcnkdffcaaGreat
set_option linter.unusedSimpArgs false
set_option linter.unusedVariables false
open Go.RowKit
attribute [local go_sem ↓] old_img
attribute [local go_sem] big_img

/-- What stands while Raw goes on: the image's box, the slice. -/
structure RwIn (w W : World) (I : Array Value) (p : Option Addr) (n cap : Nat) (L : List UInt8) (nt ns nr : Nat) : Prop where
  of_ : OfIn w W I nt ns nr
  bs : BS W (.slice p n cap) L
theorem RwIn.next {w W W' : World} {I : Array Value} {p : Option Addr} {n cap : Nat} {L : List UInt8} {nt ns nr : Nat} (h : RwIn w W I p n cap L nt ns nr) (hb : Below W.heap.size W W') : RwIn w W' I p n cap L nt ns nr := ⟨h.of_.next hb, h.bs.below hb⟩

/-- What stands in a round. -/
def RawR (w1 : World) (l : List Sym) (v8 v9 : Value) (wr : World) : Prop :=
  ∃ k : Nat, k ≤ l.length ∧ v9 = .int .i64 (k : Int) ∧ wr.ownsRow w1.heap.size 25 7 v8 k (expCells ((l.take k).map exS)) ∧ Below w1.heap.size w1 wr

set_option maxHeartbeats 4000000 in
set_option maxRecDepth 4000 in
theorem rx_raw (w : World) (p : Option Addr) (n cap : Nat) (I : Array Value) (t T N : List UInt8) (hs : BS w (.slice p n cap) (zeroP ++ t ++ T ++ N)) (h : PlainI w I t.length T.length N.length) (hn : n ≤ 9000000) :
    Calls Tryz.prog 30 #[.slice p n cap, .agg I] w (AllEnd w (rawM t T N)) := by
  obtain ⟨nt, hnt⟩ : ∃ k, k = t.length := ⟨_, rfl⟩
  obtain ⟨ns, hns⟩ : ∃ k, k = T.length := ⟨_, rfl⟩
  obtain ⟨nr, hnr⟩ : ∃ k, k = N.length := ⟨_, rfl⟩
  rw [← hnt, ← hns, ← hnr] at h
  have hln : 4096 + nt + ns + nr = n := by
    have := hs.len
    rw [List.length_append, List.length_append, List.length_append, zeroP_len] at this
    omega
  obtain ⟨L, hL⟩ : ∃ L, L = zeroP ++ t ++ T ++ N := ⟨_, rfl⟩
  have qt := part_t t T N
  have qT := part_T t T N
  have qN := part_N t T N
  rw [← hL] at hs qt qT qN
  rw [← hnt] at qt qT qN
  rw [← hns] at qT qN
  rw [← hnr] at qN
  obtain ⟨R, hR⟩ : ∃ R : List Exp × Nat, R = rawM t T N := ⟨_, rfl⟩
  rw [← hR]
  have hi0 : RwIn w (w.alloc (.cells I 38)) I p n cap L nt ns nr := ⟨OfIn.start h, hs.below ((Below.refl _ _).alloc (Nat.le_refl _) _)⟩
  obtain ⟨c14, c15, c18, c19, c20, c21⟩ := hi0.of_.cells
  obtain ⟨A, hA⟩ : ∃ A, A = 4096 + nt := ⟨_, rfl⟩
  obtain ⟨B, hB⟩ : ∃ B, B = 4096 + nt + ns := ⟨_, rfl⟩
  rw [← hA] at c18 qT
  rw [← hB] at c20 qN
  have H := hid (And.intro hi0 (And.intro hL (And.intro hnt (And.intro hns (And.intro hnr (And.intro qt (And.intro qT (And.intro qN hR))))))))
  clear hs hi0 hL hnt hns hnr qt qT qN h hR
  by_cases ht : nt = 0
  · have htn : t = [] := List.eq_nil_of_length_eq_zero (by have := H.out.2.2.1; omega)
    have e15 : (w.alloc (.cells I 38)).cell? ⟨w.heap.size, 15, none⟩ = some (.int .u64 0) := by rw [c15, ht]; rfl
    by_cases hT : ns = 0
    · have hTn : T = [] := List.eq_nil_of_length_eq_zero (by have := H.out.2.2.2.1; omega)
      have e19 : (w.alloc (.cells I 38)).cell? ⟨w.heap.size, 19, none⟩ = some (.int .u64 0) := by rw [c19, hT]; rfl
      have hR2 : R = ([], 0) := by
        rw [H.out.2.2.2.2.2.2.2.2]
        unfold rawM
        rw [if_neg (by simpa using htn), if_neg (by simpa using hTn)]
      have HR := hid hR2
      clear c14 c15 c18 c19 c20 c21 ht hT hR2
      go_enter Tryz.func30, Tryz.ntmps30
      go_wp2_with fail
      go_ret2
      rw [HR.out]
      exact ⟨_, rfl, ES.nil _, H.out.1.of_.below⟩
    · have d2 : ((ns : Int) == 0) = false := by rw [beq_eq_false_iff_ne]; omega
      have hTn : T ≠ [] := fun e => hT (by have := H.out.2.2.2.1; rw [e] at this; exact this)
      have hR2 : R = (byNames ((tableM T N 1).1.map exS), (tableM T N 1).2) := by
        rw [H.out.2.2.2.2.2.2.2.2]
        unfold rawM
        rw [if_neg (by simpa using htn), if_pos hTn]
      have HR := hid hR2
      have hAl : A + ns ≤ n := by omega
      have hBl : B + nr ≤ n := by omega
      have HA := hid (And.intro hA hB)
      clear c14 c15 c18 c20 c21 hR2 hA hB hln htn hTn
      go_enter Tryz.func30, Tryz.ntmps30
      go_upto_region 5 with fail
      clear c19 e15 ht hT
      have hi := H.out.1.next (below_drewP (Below.refl _ _))
      go_cut [6, 7] (fun t6 t7 wx => ∃ w0 : World, OfIn w w0 I nt ns nr ∧ Below w0.heap.size w0 wx ∧ t7 = .int .i64 ((tableM T N 1).2 : Int) ∧ wx.ownsRow w0.heap.size 62 4 t6 (tableM T N 1).1.length (Nl.symsCells (tableM T N 1).1))
      case first =>
        go_region_held3 (fun w' => rowA w' ⟨w.heap.size, 0, none⟩ 24 = some I ∧ w'.cell? ⟨w.heap.size, 18, none⟩ = some (.int .u64 (A : Int)) ∧ w'.cell? ⟨w.heap.size, 19, none⟩ = some (.int .u64 (ns : Int)) ∧ w'.cell? ⟨w.heap.size, 20, none⟩ = some (.int .u64 (B : Int)) ∧ w'.cell? ⟨w.heap.size, 21, none⟩ = some (.int .u64 (nr : Int))) (exact ⟨hi.of_.row, by rw [HA.out.1]; exact hi.of_.cells.2.2.1, hi.of_.cells.2.2.2.1, by rw [HA.out.2]; exact hi.of_.cells.2.2.2.2.1, hi.of_.cells.2.2.2.2.2⟩)
          (first
            | (go_at_call 33; (with_reducible refine (rx_part _ p n cap L A ns hi.bs hn hAl).mono ?_); rintro e w1 ⟨p1, m1, q1, rfl, hv1, hb⟩; have hi := hi.next hb; clear hb)
            | (go_at_call 33; (with_reducible refine (rx_part _ p n cap L B nr hi.bs hn hBl).mono ?_); rintro e w1 ⟨p2, m2, q2, rfl, hv2, hb⟩; have hi := hi.next hb; have hv1 := hv1.below hb; clear hb)
            | (go_at_call 49; (with_reducible refine (rx_sections _ I nt ns nr hi.of_.plain).mono ?_); rintro e w1 ⟨rfl, hb⟩; have hi := hi.next hb; have hv1 := hv1.below hb; have hv2 := hv2.below hb; clear hb)
            | (go_at_call 48; (with_reducible refine (Nl.ref_all _ p1 p2 m1 q1 m2 q2 _ _ 1 hv1 hv2).mono ?_); rintro e w1 ⟨v1, rfl, hown, hb⟩; have hi0 := hi.of_; have hi := hi.next hb; have hbb := hid hb; clear hb)
            | fail "no call")
        all_goals
          rw [H.out.2.2.2.2.2.2.1, H.out.2.2.2.2.2.2.2.1] at hown ⊢
          have HE := hid (And.intro hi0 hown)
          clear hi hi0 hv1 hv2 hown
          go_wp2_with fail
          go_meet
          exact ⟨_, HE.out.1, hbb.out, rfl, HE.out.2⟩
      case rest =>
        rename World => w1
        obtain ⟨w0, hof, hb0, rfl, hown⟩ := hcut
        have hok := Nl.tableM_ok T N 1
        have hnm := (tab_names T N 1).1
        obtain ⟨l, hl⟩ : ∃ l, l = (tableM T N 1).1 := ⟨_, rfl⟩
        obtain ⟨er, her⟩ : ∃ er, er = (tableM T N 1).2 := ⟨_, rfl⟩
        have hR3 := HR.out
        rw [← hl] at hown hok hR3
        rw [← her] at hok hR3
        rw [← hl] at hnm
        rw [← her]
        have hll : l.length ≤ 4096 := hok.2
        have hss := Nl.SS.of_owns hown (by omega)
        obtain ⟨va, vc, rfl⟩ := hss.form
        have hofc := hof.next hb0
        have H1 := hid (And.intro hss (And.intro hofc (And.intro hnm (And.intro hR3 hok.1))))
        obtain ⟨i0, hi0, hz0, hz1, hz2⟩ := info_parts Tryz.infoExport
        have HI := hid (And.intro hi0 (And.intro hz0 (And.intro hz1 hz2)))
        clear hof hb0 hown hok hnm hl her hR3 hss hofc hi hi0 hz0 hz1 hz2 HR H HA
        go_wp2_with fail
        go_loopw [8, 9] (fun v8 v9 wr => RawR w1 l v8 v9 wr) (fun _ i _ => l.length - (intOf i).toNat)
        case atStart => exact ⟨0, Nat.zero_le _, rfl, World.ownsRow_nil _ _ _ _, Below.refl _ _⟩
        case round =>
          obtain ⟨k, hk, rfl, hown, hbr⟩ := hrel
          have hzr := hbr.size
          obtain ⟨oa, oc, rfl⟩ := ownsRow_form hown
          by_cases hlt : k < l.length
          · obtain ⟨g, off, rfl, hcs⟩ := (H1.out.1.below hbr).at (by omega)
            obtain ⟨⟨sn, ss, sv, sw⟩, hs⟩ : ∃ s, l[k]? = some s := ⟨_, List.getElem?_eq_getElem hlt⟩
            obtain ⟨x0, x1, x2, x3⟩ := hcs k _ hs
            dsimp only at x0 x1 x2 x3
            have hgl : g < wr.heap.size := World.block_lt_of_cell? wr _ x0
            have HRr := hid (And.intro hown (And.intro hbr hs))
            have q1 : (0 : Int) ≤ (k : Int) := by omega
            have q2 : (k : Int) < (l.length : Int) := by omega
            clear hown hbr hcs hs
            go_upto_region 10 with fail
            go_cut [10] (fun t10 wx => ∃ K, t10 = .pointer (some ⟨K, 0, none⟩) ∧ wr.heap.size ≤ K ∧ Below wr.heap.size wr wx ∧ wx.heap[K]? = some (.cells #[.string (mkS sn), .int .i64 2, .bool sw, .int .u64 (sv : Int), .int .u64 0, .int .u64 0, .string ⟨#[]⟩] 25 (0, 0)))
            case first =>
              go_region
              go_wp2_with fail
              go_meet
              exact ⟨_, rfl, Nat.le_refl _, below_drewP ((Below.refl _ _).alloc (Nat.le_refl _) _), heap_alloc_new wr _⟩
            case rest =>
              rename World => w2
              obtain ⟨K, rfl, hK, hb1, hk1⟩ := hcut
              have y1 := (hb1.cell (p := ⟨g, off + k * 4 + 1, none⟩) hgl).trans x1
              have hz1 := hb1.size
              have hKl := (Array.getElem?_eq_some_iff.1 hk1).1
              obtain ⟨X, hX⟩ : ∃ X, X = exS ⟨sn, ss, sv, sw⟩ := ⟨_, rfl⟩
              have H2 := hid (And.intro hb1 (And.intro hk1 (And.intro hX hK)))
              clear hb1 hk1 hX x0 x1 x3 hK
              go_upto_if 67 with fail
              go_cut [] (fun wx => Below wr.heap.size wr wx ∧ wx.heap[K]? = some (.cells X.cells.toArray 25 (0, 0)))
              case first =>
                have kf := fun i => frozen_of_row _ K i _ _ H2.out.2.1
                have k1 : w2.cell? ⟨K, 1, none⟩ = some (.int .i64 2) := cell_of_row _ K 1 _ _ _ H2.out.2.1
                cases hd : decide (0 < ss) with
                | true =>
                  have h0 : 0 < ss := of_decide_eq_true hd
                  obtain ⟨Z, hZ⟩ : ∃ Z, Z = (sv + 18446744073709547520) % 18446744073709551616 := ⟨_, rfl⟩
                  have hX2 : X = ⟨sn, 1, sw, Z, 0, 0, []⟩ := by rw [H2.out.2.2.1, hZ]; unfold exS; exact if_pos h0
                  have hw : IntKind.u64.wrap ((sv : Int) - 4096) = (Z : Int) := by
                    show ((sv : Int) - 4096) % 18446744073709551616 = _
                    omega
                  have HX2 := hid hX2
                  clear hd h0 hZ hX2
                  go_upto_region 13 with fail
                  obtain ⟨W3, hW3⟩ : ∃ W, W = w2.setCell ⟨K, 1, none⟩ (.int .i64 1) := ⟨_, rfl⟩
                  have hb3 : Below wr.heap.size wr W3 := by rw [hW3]; exact H2.out.1.setCell H2.out.2.2.2 _
                  have hk3 : W3.heap[K]? = some (.cells #[.string (mkS sn), .int .i64 1, .bool sw, .int .u64 (sv : Int), .int .u64 0, .int .u64 0, .string ⟨#[]⟩] 25 (0, 0)) := by
                    rw [hW3]; exact heap_setCell_same _ _ _ _ _ _ H2.out.2.1
                  rw [← hW3]
                  have hi : OfIn w W3.drew I nt ns nr ∧ Below wr.heap.size wr W3.drew ∧ W3.drew.heap[K]? = some (.cells #[.string (mkS sn), .int .i64 1, .bool sw, .int .u64 (sv : Int), .int .u64 0, .int .u64 0, .string ⟨#[]⟩] 25 (0, 0)) := ⟨(H1.out.2.1.next (HRr.out.2.1.trans (hb3.mono hzr))).drew, below_drewP hb3, hk3⟩
                  clear hW3 hb3 hk3 kf k1
                  go_region_held3 (fun w' => rowA w' ⟨w.heap.size, 0, none⟩ 24 = some I ∧ w'.cell? ⟨g, off + k * 4 + 2, none⟩ = some (.int .u64 (sv : Int))) (first | exact ⟨hi.1.row, (hi.2.1.cell (p := ⟨g, off + k * 4 + 2, none⟩) hgl).trans x2⟩ | exact ⟨(H1.out.2.1.next (HRr.out.2.1.trans ((hi.2.1.setCell (p := ⟨K, 3, none⟩) H2.out.2.2.2 (.int .u64 (Z : Int))).mono hzr))).row, ((hi.2.1.setCell (p := ⟨K, 3, none⟩) H2.out.2.2.2 (.int .u64 (Z : Int))).cell (p := ⟨g, off + k * 4 + 2, none⟩) hgl).trans x2⟩)
                    (first
                      | (go_at_call 35; (with_reducible refine (rx_low _ I nt ns nr hi.1.plain).mono ?_); rintro e w4 ⟨rfl, hb⟩; have hk4 := (hb.block _ (Array.getElem?_eq_some_iff.1 hi.2.2).1).trans hi.2.2; have k3 := cell_of_row _ K 3 _ _ _ hk4; have kf := frozen_of_row _ K 3 _ _ hk4; have hi := And.intro (hi.1.next hb) (And.intro (hi.2.1.trans (hb.mono hi.2.1.size)) hk4); clear hb hk4)
                      | fail "no call")
                  all_goals
                    have HZ2 := hid hi
                    clear hi k3 kf
                    go_wp2_with fail
                    go_meet
                    refine ⟨HZ2.out.2.1.setCell H2.out.2.2.2 _, ?_⟩
                    rw [HX2.out]
                    exact heap_setCell_same _ _ _ _ _ _ HZ2.out.2.2
                | false =>
                  have h0 : ¬ 0 < ss := of_decide_eq_false hd
                  have hX2 : X = ⟨sn, 2, sw, sv, 0, 0, []⟩ := by rw [H2.out.2.2.1]; unfold exS; exact if_neg h0
                  have HX2 := hid hX2
                  clear hd h0 hX2
                  go_wp2_with fail
                  go_meet
                  refine ⟨H2.out.1, ?_⟩
                  rw [HX2.out]
                  exact H2.out.2.1
              case rest =>
                rename World => w3
                obtain ⟨hb3, hk3⟩ := hcut
                obtain ⟨c0, c1, c2, c3, c4, c5, c6⟩ := exp_at X rfl hk3
                have hz3 := hb3.size
                have H3 := hid hb3
                clear hb3 hk3 x2 y1
                obtain ⟨xn, xk, xw, xv, xr, xo, xt⟩ := X
                dsimp only at c0 c1 c2 c3 c4 c5 c6
                go_wp2_with (at_builtin; refine wpList_append_grew _ rfl _ _ _ _ rfl w1.heap.size 25 i0 _ 7 72 Tryz.underlying30 HI.out.1 HI.out.2.1 HI.out.2.2.1 HI.out.2.2.2 rfl _ k (expCells ((l.take k).map exS)) rfl (ownsRow_below (ownsRow_below HRr.out.1 H3.out) ((Below.refl _ _).alloc (Nat.le_refl _) _)) _ 1 [.string (mkS xn), .int .i64 xk, .bool xw, .int .u64 (xv : Int), .int .u64 (xr : Int), .int .u64 (xo : Int), .string (mkS xt)] rfl (Src.laid _ Tryz.underlying30 [.string (mkS xn), .int .i64 xk, .bool xw, .int .u64 (xv : Int), .int .u64 (xr : Int), .int .u64 (xo : Int), .string (mkS xt)] 1 rfl (by simp [Value.oneCell']) (0, 0) (by simp)) ?e3 ?e4 ?e5 ?_)
                case e3 => exact Nat.le_trans (show k + 1 ≤ 5000 by omega) (by decide)
                case e4 => omega
                case e5 => simp; omega
                intro v1 W5 hl1 hg1
                have hg1 : Grew w3 W5 _ v1 := Grew.under ((Below.refl _ _).alloc (Nat.le_refl _) _) hg1
                have HE := hid (And.intro hl1 hg1)
                clear hl1 hg1 c0 c1 c2 c3 c4 c5 c6
                go_wp2_with fail
                go_roundw
                case rel =>
                  refine ⟨k + 1, by omega, by go_num, ?_, ?_⟩
                  · have h5 := HE.out.1
                    rw [take_snoc HRr.out.2.2, List.map_append, List.map_singleton, ← H2.out.2.2.1, expCells_snoc, List.map_take]
                    exact h5
                  · exact (HRr.out.2.1.trans (H3.out.mono HRr.out.2.1.size)).trans (HE.out.2.below (by omega) (fun j e => ((HRr.out.1).lt j e).1))
                case measure => simp [intOf]; omega
          · obtain rfl : k = l.length := by omega
            rw [List.take_length] at hown
            have HRr := hid (And.intro hown hbr)
            clear hown hbr
            have hown2 := HRr.out.1
            have hes := ES.of_owns (w := wr) (base := w1.heap.size) (l := l.map exS) (by rw [List.length_map]; exact hown2) (by rw [List.length_map]; omega)
            have hsort := ref_sorted l.length wr _ _ hes (by rw [List.length_map]; omega) (by rw [List.length_map]; omega)
            rw [sortedR_is (exS_apart H1.out.2.2.1) (by rw [List.length_map]; omega)] at hsort
            have HS := hid hsort
            clear hown2 hes hsort
            go_wp2_with fail
            refine HS.out.mono ?_
            rintro e w3 ⟨v3, rfl, hown3, hb3⟩
            have HF := hid (And.intro (ES.of_owns hown3 (by rw [(byNames_perm _).length_eq, List.length_map]; omega)) ((H1.out.2.1.below.trans (HRr.out.2.mono H1.out.2.1.below.size)).trans (hb3.mono (Nat.le_trans H1.out.2.1.below.size HRr.out.2.size))))
            clear hown3 hb3
            go_wp2_with fail
            go_ret2
            rw [H1.out.2.2.2.1]
            exact ⟨_, rfl, HF.out.1, HF.out.2⟩
  · have d2 : decide ((0 : Int) < (nt : Int)) = true := decide_eq_true (by omega)
    have d3 : decide (0 < nt) = true := decide_eq_true (by omega)
    have htn : t ≠ [] := fun e => ht (by have := H.out.2.2.1; rw [e] at this; exact this)
    have hR2 : R = ((allS t).2, (allS t).1) := by
      rw [H.out.2.2.2.2.2.2.2.2]
      unfold rawM
      rw [if_pos htn]
    have HR := hid hR2
    clear htn c18 c19 c20 c21 hR2
    go_enter Tryz.func30, Tryz.ntmps30
    go_wp2_with (first | (go_at_call 33; refine (rx_part _ p n cap L 4096 nt H.out.1.bs hn (by omega)).mono ?_; rintro e w1 ⟨p1, m1, q1, rfl, hv, hb1⟩))
    rw [H.out.2.2.2.2.2.1] at hv
    have H1 := hid (And.intro hv (H.out.1.of_.below.trans (hb1.mono H.out.1.of_.below.size)))
    clear hv hb1
    go_wp2_with fail
    refine (ref_all _ p1 m1 q1 t H1.out.1).mono ?_
    rintro e w2 ⟨v2, rfl, hv2, hb2⟩
    have H2 := hid (And.intro hv2 (H1.out.2.trans (hb2.mono H1.out.2.size)))
    clear hv2 hb2
    go_wp2_with fail
    go_ret2
    rw [HR.out]
    exact ⟨_, rfl, H2.out.1, H2.out.2⟩
end Go.Proofs.YthhjdkcnkdffcaaGreat

namespace Go.Proofs.YthhjdkcnkdffcaaGreat
set_option linter.unusedSimpArgs false
set_option linter.unusedVariables false
open Go.RowKit
attribute [local go_sem ↓] old_img
attribute [local go_sem] big_img rowA_older

set_option maxHeartbeats 2000000 in
set_option maxRecDepth 4000 in
theorem rx_all (w : World) (p : Option Addr) (n cap : Nat) (I : Array Value) (t T N : List UInt8) (hs : BS w (.slice p n cap) (zeroP ++ t ++ T ++ N)) (h : PlainI w I t.length T.length N.length) (hn : n ≤ 9000000) :
    Calls Tryz.prog 13 #[.slice p n cap, .agg I] w (AllEnd w (allX t T N)) := by
  obtain ⟨R, hR⟩ : ∃ R : List Exp × Nat, R = allX t T N := ⟨_, rfl⟩
  rw [← hR]
  have hb1 : Below w.heap.size w (w.alloc (.cells I 38)) := (Below.refl _ _).alloc (Nat.le_refl _) _
  have hA := heap_alloc_new w (.cells I 38)
  have rA := rowA_block hA h.ok.1
  have hcall := rx_raw _ p n cap I t T N (hs.below hb1) (h.below hb1) hn
  have hfew := raw_few t T N
  obtain ⟨⟨L, er⟩, hL⟩ : ∃ r, r = rawM t T N := ⟨_, rfl⟩
  unfold allX at hR
  rw [← hL] at hcall hR hfew
  have H := hid (And.intro h (And.intro hcall hR))
  have hll : L.length ≤ 4096 := hfew
  clear hb1 hA hs h hcall hR hL hfew
  go_enter Tryz.func13, Tryz.ntmps13
  go_wp2_with fail
  refine (H.out.2.1).mono ?_
  rintro e w1 ⟨v, rfl, hv, hb⟩
  dsimp only at hv ⊢
  have hof : OfIn w w1 I t.length T.length N.length := (OfIn.start H.out.1).next hb
  obtain ⟨pa, ca, rfl⟩ := hv.form
  have HS := hid (And.intro hv hof)
  clear hv hof hb rA
  by_cases he : er = 0
  · subst he
    rw [show ((0 : Nat) : Int) = (0 : Int) from rfl]
    go_wp2_with fail
    go_loopw [8] (fun i wr => ∃ k : Nat, k ≤ L.length ∧ i = .int .i64 (k : Int) ∧ (∀ y ∈ L.take k, mayX y = 0) ∧ Below w1.heap.size w1 wr) (fun i _ => L.length - (intOf i).toNat)
    case atStart => exact ⟨0, Nat.zero_le _, rfl, by simp, Below.refl _ _⟩
    case round =>
      obtain ⟨k, hk, rfl, hok, hbr⟩ := hrel
      by_cases hlt : k < L.length
      · obtain ⟨x, hx⟩ : ∃ x, L[k]? = some x := ⟨_, List.getElem?_eq_getElem hlt⟩
        obtain ⟨g, off, rfl, x0, x1, x2, x3, x4, x5, x6⟩ := (HS.out.1.below hbr).at hx
        have hofr := HS.out.2.next hbr
        have hrow := hofr.row
        have q1 : (0 : Int) ≤ (k : Int) := by omega
        have q2 : (k : Int) < (L.length : Int) := by omega
        have hi := hofr.drew
        have hgl : g < wr.heap.size := World.block_lt_of_cell? wr _ x0
        obtain ⟨M, hM⟩ : ∃ M, M = mayX x := ⟨_, rfl⟩
        have hcl := fun (w0 : World) (hp : PlainI w0 I t.length T.length N.length) => rx_may w0 I _ _ _ x hp
        rw [← hM] at hcl
        have HR1 := hid (And.intro hok (And.intro hx (And.intro hM hbr)))
        have HC := hid hcl
        clear hok hx hM hcl hofr
        have hbr' := hid (below_drewP (Below.refl wr.heap.size wr))
        obtain ⟨xn, xk, xw, xv, xr, xo, xt⟩ := x
        dsimp only at x0 x1 x2 x3 x4 x5 x6
        unfold Exp.cells at HC
        dsimp only at HC
        go_upto_region 7 with fail
        go_cut [9] (fun t9 wx => t9 = .int .i64 (M : Int) ∧ Below wr.heap.size wr wx)
        case first =>
          go_region_with (go_at_call 31; refine (HC.out _ hi.plain).mono ?_; rintro e w3 ⟨rfl, hb3⟩; have HB := hid (hbr'.out.trans hb3); clear hb3)
          all_goals
            go_wp2_with fail
            go_meet
            exact ⟨rfl, HB.out⟩
        case rest =>
          rename World => w3
          obtain ⟨rfl, hb3⟩ := hcut
          have H3 := hid (HR1.out.2.2.2.trans (hb3.mono HR1.out.2.2.2.size))
          clear hb3 x0 x1 x2 x3 x4 x5 x6 hrow hi
          by_cases hm : M = 0
          · subst hm
            go_wp2_with fail
            go_roundw
            case rel =>
              refine ⟨k + 1, by omega, by go_num, fun y hy => ?_, H3.out⟩
              rw [take_snoc HR1.out.2.1] at hy
              rcases List.mem_append.1 hy with h5 | h5
              · exact HR1.out.1 y h5
              · simp only [List.mem_singleton] at h5
                subst h5
                exact HR1.out.2.2.1.symm
            case measure => simp [intOf]; omega
          · have dm : ((M : Int) != 0) = true := by rw [bne_iff_ne]; omega
            have Hm := hid hm
            clear hm
            go_wp2_with fail
            go_ret2
            have e4 : R = ([], M) := by
              rw [H.out.2.2]
              unfold endA
              rw [if_neg (by simp), goM_take HR1.out.1 HR1.out.2.1 (by rw [← HR1.out.2.2.1]; exact Hm.out), if_pos (by rw [← HR1.out.2.2.1]; exact Hm.out), ← HR1.out.2.2.1]
            rw [e4]
            exact ⟨_, rfl, ES.nil _, HS.out.2.below.trans (H3.out.mono HS.out.2.below.size)⟩
      · obtain rfl : k = L.length := by omega
        rw [List.take_length] at hok
        have HR1 := hid (And.intro hok hbr)
        clear hok hbr
        go_wp2_with fail
        go_ret2
        have hg := (goM_zero L).2 HR1.out.1
        have e4 : R = (L, 0) := by
          rw [H.out.2.2]
          unfold endA
          rw [if_neg (by simp), if_neg (by simpa using hg)]
        rw [e4]
        exact ⟨_, rfl, HS.out.1.below HR1.out.2, HS.out.2.below.trans (HR1.out.2.mono HS.out.2.below.size)⟩
  · have dn : ((er : Int) != 0) = true := by rw [bne_iff_ne]; omega
    have He := hid he
    clear he
    go_wp2_with fail
    go_ret2
    have e4 : R = ([], er) := by
      rw [H.out.2.2]
      unfold endA
      rw [if_pos He.out]
    rw [e4]
    exact ⟨_, rfl, ES.nil _, HS.out.2.below⟩
end Go.Proofs.YthhjdkcnkdffcaaGreat
