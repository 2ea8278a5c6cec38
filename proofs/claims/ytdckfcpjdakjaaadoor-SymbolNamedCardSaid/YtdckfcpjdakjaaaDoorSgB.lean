/- The walks of what strconv does with base 16. -/
import Derived.Test.YtdckfcpjdakjaaaDoorOpenG
import Derived.Test.YtdckfcpjdakjaaaDoorRows
import Derived.Test.YtdckfcpjdakjaaaDoorGrew
namespace Go.Proofs.YtdckfcpjdakjaaaDoor
set_option linter.unusedSimpArgs false
set_option linter.unusedVariables false
open Go.RowKit

/-- The table of math/bits stands where it was laid: what is read of it here. -/
def TabAt (w : World) : Prop := w.cell? ⟨2, 15, none⟩ = some (.int .u8 4)

set_option maxHeartbeats 400000 in
theorem tz64_16 (w : World) (h : w.cell? ⟨2, 15, none⟩ = some (.int .u8 4)) :
    Calls Tryd.prog 34 #[.int .u64 16] w fun e w' => e = .returned (.int .i64 4) ∧ w = w' := by
  have hb : bits BinOp.and IntKind.u64 16 (IntKind.u64.wrap (-16)) = 16 := by decide +kernel
  have hm : IntKind.u64.wrap (16 * 285870213051353865) = 4573923408821661840 := by decide +kernel
  go_enter Tryd.func34, Tryd.ntmps34
  go_wp2
  go_ret
  exact ⟨rfl, rfl⟩

set_option maxHeartbeats 400000 in
theorem tz_16 (w : World) (h : w.cell? ⟨2, 15, none⟩ = some (.int .u8 4)) :
    Calls Tryd.prog 32 #[.int .u64 16] w fun e w' => e = .returned (.int .i64 4) ∧ w = w' := by
  go_enter Tryd.func32, Tryd.ntmps32
  go_wp2_with (go_at_call 34; refine (tz64_16 _ h).mono ?_; rintro e w' ⟨rfl, rfl⟩)
  go_ret
  exact ⟨rfl, rfl⟩

set_option maxHeartbeats 400000 in
theorem pow2_16 (w : World) :
    Calls Tryd.prog 31 #[.int .i64 16] w fun e w' => e = .returned (.bool true) ∧ w = w' := by
  go_enter Tryd.func31, Tryd.ntmps31
  go_wp2
  go_ret
  exact ⟨rfl, rfl⟩

/-- A digit of base 16. -/
def hexd (n : Nat) : UInt8 := if n < 10 then UInt8.ofNat (48 + n) else UInt8.ofNat (87 + n)

/-- The digits of base 16, ahead of what is there already. -/
def hexF : Nat → Nat → List UInt8 → List UInt8
  | 0, u, acc => hexd u :: acc
  | f + 1, u, acc => if u < 16 then hexd u :: acc else hexF f (u / 16) (hexd (u % 16) :: acc)

def hexM (u : Nat) : List UInt8 := hexF 16 u []

theorem dig_run (w : World) : ∀ y : Nat, y < 16 → (Instr.index 9 (.string ⟨#[48, 49, 50, 51, 52, 53, 54, 55, 56, 57, 97, 98, 99, 100, 101, 102, 103, 104, 105, 106, 107, 108, 109, 110, 111, 112, 113, 114, 115, 116, 117, 118, 119, 120, 121, 122]⟩) (.int .u64 (y : Int))).run Tryd.prog w = .ok (.int .u8 ((hexd y).toNat : Int)) w
  | 0, _ => by kernel_rfl
  | 1, _ => by kernel_rfl
  | 2, _ => by kernel_rfl
  | 3, _ => by kernel_rfl
  | 4, _ => by kernel_rfl
  | 5, _ => by kernel_rfl
  | 6, _ => by kernel_rfl
  | 7, _ => by kernel_rfl
  | 8, _ => by kernel_rfl
  | 9, _ => by kernel_rfl
  | 10, _ => by kernel_rfl
  | 11, _ => by kernel_rfl
  | 12, _ => by kernel_rfl
  | 13, _ => by kernel_rfl
  | 14, _ => by kernel_rfl
  | 15, _ => by kernel_rfl
  | n + 16, h => by omega

theorem dig_get : ∀ (y : Nat) (h : y < (⟨#[48, 49, 50, 51, 52, 53, 54, 55, 56, 57, 97, 98, 99, 100, 101, 102, 103, 104, 105, 106, 107, 108, 109, 110, 111, 112, 113, 114, 115, 116, 117, 118, 119, 120, 121, 122]⟩ : ByteArray).size), y < 16 → (⟨#[48, 49, 50, 51, 52, 53, 54, 55, 56, 57, 97, 98, 99, 100, 101, 102, 103, 104, 105, 106, 107, 108, 109, 110, 111, 112, 113, 114, 115, 116, 117, 118, 119, 120, 121, 122]⟩ : ByteArray)[y]'h = hexd y
  | 0, _, _ => rfl
  | 1, _, _ => rfl
  | 2, _, _ => rfl
  | 3, _, _ => rfl
  | 4, _, _ => rfl
  | 5, _, _ => rfl
  | 6, _, _ => rfl
  | 7, _, _ => rfl
  | 8, _, _ => rfl
  | 9, _, _ => rfl
  | 10, _, _ => rfl
  | 11, _, _ => rfl
  | 12, _, _ => rfl
  | 13, _, _ => rfl
  | 14, _, _ => rfl
  | 15, _, _ => rfl
  | n + 16, _, h => by omega

theorem and_15 (x : Nat) (h : x < 2 ^ 64) : bits BinOp.and IntKind.u64 (x : Int) 15 = ((x % 16 : Nat) : Int) := by
  rw [show (15 : Int) = ((15 : Nat) : Int) from rfl, and_u64 x 15 h (by omega)]
  have := Nat.and_two_pow_sub_one_eq_mod x 4
  rw [show (15 : Nat) = 2 ^ 4 - 1 from rfl, this]

/-- What holds of the array of digits: the last ones stand. -/
structure HexRel (w wr : World) (u f x : Nat) (acc : List UInt8) (cur : Array Value) : Prop where
  blk : wr.heap[w.heap.size]? = some (.cells cur 71 (0, 0))
  size : cur.size = 65
  last : cur.toList.drop (65 - acc.length) = u8s acc
  below : Below w.heap.size w wr
  len : acc.length + f = 16
  lt : x < 16 ^ f
  eq : hexF f x acc = hexM u

def HexAt (w wr : World) (u : Nat) (vu vi : Value) : Prop := ∃ (f x : Nat) (acc : List UInt8) (cur : Array Value), vu = .int .u64 (x : Int) ∧ vi = .int .i64 (65 - acc.length : Int) ∧ HexRel w wr u f x acc cur

theorem HexRel.put {w wr : World} {u f x : Nat} {acc : List UInt8} {cur : Array Value} (R : HexRel w wr u f x acc cur) (d : UInt8) (hl : acc.length < 65) :
    (cur.setIfInBounds (65 - acc.length - 1) (.int .u8 (d.toNat : Int))).toList.drop (65 - (d :: acc).length) = u8s (d :: acc) := by
  have hs := R.size
  obtain ⟨l⟩ := cur
  simp at hs
  have hlast := R.last
  simp only [List.length_cons]
  rw [show 65 - (acc.length + 1) = 65 - acc.length - 1 by omega]
  have hi : 65 - acc.length - 1 < l.length := by omega
  simp only [List.setIfInBounds_toArray]
  rw [List.drop_set]
  simp only [Nat.lt_irrefl, if_false, Nat.sub_self]
  rw [List.drop_eq_getElem_cons hi, List.set_cons_zero, show 65 - acc.length - 1 + 1 = 65 - acc.length by omega]
  simp only at hlast
  rw [hlast]
  rfl

/-- The last cells of a block, read as bytes. -/
theorem BS.tail {w : World} {B k : Nat} {cur : Array Value} {t : TypeId} {l : List UInt8} (hb : w.heap[B]? = some (.cells cur t (0, 0))) (hd : cur.toList.drop k = u8s l) (hl : l.length ≤ 140737488355328) : BS w (.slice (some ⟨B, k, none⟩) l.length l.length) l := by
  refine ⟨_, _, rfl, Nat.le_refl _, ⟨Nat.le_trans hl (by decide), hl⟩, fun _ => ⟨B, k, rfl, fun i x hx => ?_⟩⟩
  rw [cell_of_row _ _ (k + i) _ _ _ hb]
  have h : (cur.toList.drop k)[i]? = some (.int .u8 (x.toNat : Int)) := by rw [hd]; simp [u8s, hx]
  rw [List.getElem?_drop] at h
  simpa using h

theorem slice65 (W : World) (B n : Nat) (hn : n ≤ 16) : (Instr.sliceAt 71 (.pointer (some ⟨B, 0, none⟩)) (some (.int .i64 (65 - (n : Int) - 1))) none none).run Tryd.prog W = .ok (.slice (some ⟨B, 65 - n - 1, none⟩) (n + 1) (n + 1)) W := by
  have ha : Tryd.prog.arrayLen 71 = 65 := by kernel_rfl
  have he : ∀ W, (sizeOf (Tryd.prog.elem 71)).run Tryd.prog W = .ok 1 W := fun W => by kernel_rfl
  have hu : Tryd.prog.underlying 71 = some (.array (Tryd.prog.arrayLen 71) (Tryd.prog.elem 71)) := by kernel_rfl
  rw [run_sliceAt_array_l W 71 ⟨B, 0, none⟩ hu .i64 (65 - (n : Int) - 1) (by omega) (by rw [ha]; omega), he, ha]
  have e1 : (65 - (n : Int) - 1).toNat = 65 - n - 1 := by omega
  simp only [Result.andThen, slicedAt, e1, Nat.mul_one]
  rw [if_neg (by omega)]
  have e2 : 65 - (65 - n - 1) = n + 1 := by omega
  rw [e2]
  unfold Addr.add
  split
  · rename_i h; omega
  · simp

theorem zero65 (w : World) : (zeroValue 71).run Tryd.prog w = .ok (.agg (Array.replicate 65 (.int .u8 0))) w := by kernel_rfl

theorem some_zero65 : ∃ Z : Array Value, Z.size = 65 ∧ ∀ w : World, (zeroValue 71).run Tryd.prog w = .ok (.agg Z) w := ⟨_, by simp, zero65⟩

set_option maxRecDepth 100000 in
set_option maxHeartbeats 2000000 in
theorem fbits_16 (w : World) (u : Nat) (hu : u < 2 ^ 64) (h : w.cell? ⟨2, 15, none⟩ = some (.int .u8 4)) :
    Calls Tryd.prog 27 #[.slice none 0 0, .int .u64 u, .int .i64 16, .bool false, .bool false] w fun e w' => e = .returned (.tuple #[.slice none 0 0, .string (mkS (hexM u))]) ∧ Below w.heap.size w w' := by
  have hw : IntKind.u64.wrap 16 = 16 := by decide +kernel
  have hlt : 2 < w.heap.size := World.block_lt_of_cell? w _ h
  obtain ⟨Z, hZ, hz⟩ := some_zero65
  have h1 : (w.alloc (.cells Z 71)).cell? ⟨2, 15, none⟩ = some (.int .u8 4) := by rw [World.cell?_alloc_past _ _ _ (by exact hlt)]; exact h
  have H := hid (And.intro hZ h)
  clear h hZ
  go_enter Tryd.func27, Tryd.ntmps27
  go_wp2_with (first
    | (go_at_call 31; refine (pow2_16 _).mono ?_; rintro e w' ⟨rfl, rfl⟩)
    | (go_at_call 32; refine (tz_16 _ h1).mono ?_; rintro e w' ⟨rfl, rfl⟩))
  clear hz h1
  go_loopw [1, 13] (fun vu vi wr => HexAt w wr u vu vi) (fun vu _ _ => (intOf vu).toNat)
  case atStart =>
    refine ⟨16, u, [], Z, rfl, rfl, heap_alloc_new _ _, H.out.1, ?_, (Below.refl _ _).alloc (Nat.le_refl _) _, rfl, by omega, rfl⟩
    rw [List.drop_of_length_le (by simp [H.out.1])]
    rfl
  case round =>
    obtain ⟨f, x, acc, cur, rfl, rfl, R⟩ := hrel
    have hlen := R.len
    have hx64 : x < 2 ^ 64 := Nat.lt_of_lt_of_le R.lt (Nat.le_trans (Nat.pow_le_pow_right (by omega) (by omega : f ≤ 16)) (by decide))
    have hfz := fun i => frozen_of_row _ _ i _ _ R.blk
    have hal : acc.length ≤ 16 := by omega
    by_cases hge : x < 16
    · have hdg := fun w : World => dig_run w x hge
      obtain ⟨y, hy⟩ : ∃ y, cur[65 - acc.length - 1]? = some y := ⟨_, Array.getElem?_eq_getElem (by rw [R.size]; omega)⟩
      have hc := (cell_of_row _ _ (65 - acc.length - 1) _ _ _ R.blk).trans hy
      have HR := hid (And.intro R hy)
      clear R hy
      have hsl := fun W => slice65 W w.heap.size acc.length hal
      have hblk := heap_setCell_same _ _ (65 - acc.length - 1) _ _ (.int .u8 ((hexd x).toNat : Int)) HR.out.1.blk
      have hbs := BS.tail (l := hexd x :: acc) hblk (k := 65 - acc.length - 1) (by have h := HR.out.1.put (hexd x) (by omega); rw [show 65 - (hexd x :: acc).length = 65 - acc.length - 1 from by simp; omega] at h; exact h) (by simp; omega)
      have hcv := run_toString (P := Tryd.prog) _ _ _ Tryd.underlying65 Tryd.underlying5 Tryd.underlying9 hbs
      have hblw := HR.out.1.below.setCell (p := ⟨w.heap.size, 65 - acc.length - 1, none⟩) (Nat.le_refl _) (.int .u8 ((hexd x).toNat : Int))
      have hend : hexM u = hexd x :: acc := by
        rw [← HR.out.1.eq]
        cases f with
        | zero => rfl
        | succ f => rw [hexF, if_pos hge]
      have HB := hid (And.intro hblw hend)
      simp only [List.length_cons] at hcv
      clear hblk hbs hblw hend
      go_wp2_with fail
      go_ret2
      rw [HB.out.2]
      exact ⟨rfl, HB.out.1⟩
    · have hge' : 16 ≤ x := by omega
      have hdg := fun w : World => dig_run w (x % 16) (Nat.mod_lt _ (by omega))
      have hand := and_15 x hx64
      obtain ⟨y, hy⟩ : ∃ y, cur[65 - acc.length - 1]? = some y := ⟨_, Array.getElem?_eq_getElem (by rw [R.size]; omega)⟩
      have hc := (cell_of_row _ _ (65 - acc.length - 1) _ _ _ R.blk).trans hy
      have HR := hid (And.intro R hy)
      clear R hy
      go_wp2_with fail
      obtain ⟨R, hy⟩ := HR.out
      have hf : ∃ f', f = f' + 1 := by
        cases f with
        | zero => have := R.lt; simp at this; omega
        | succ f => exact ⟨f, rfl⟩
      obtain ⟨f', rfl⟩ := hf
      refine ⟨⟨f', x / 16, hexd (x % 16) :: acc, cur.setIfInBounds (65 - acc.length - 1) (.int .u8 ((hexd (x % 16)).toNat : Int)), by go_num, ?_, ?_, ?_, R.put _ (by omega), ?_, ?_, ?_, ?_⟩, ?_⟩
      · simp; omega
      · rw [dig_get (x % 16) _ (Nat.mod_lt _ (by omega))]
        exact heap_setCell_same _ _ _ _ _ _ R.blk
      · simp [R.size]
      · exact R.below.setCell (Nat.le_refl _) _
      · simp; omega
      · have := R.lt
        rw [Nat.pow_succ] at this
        exact Nat.div_lt_of_lt_mul (by rw [Nat.mul_comm]; exact this)
      · have := R.eq
        rw [hexF, if_neg (by omega)] at this
        exact this
      · simp [intOf]; omega

end Go.Proofs.YtdckfcpjdakjaaaDoor
