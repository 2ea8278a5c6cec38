/- Memory that is made: zero bytes, names, files. -/
import Derived.Test.YtfkpbgookilhjaaGreatDoorZScKn
import Derived.Test.YtfkpbgookilhjaaGreatDoorZScTr
namespace Go.Proofs.YtfkpbgookilhjaaGreatDoor
set_option linter.unusedSimpArgs false
set_option linter.unusedVariables false
open Go.RowKit

def zB (n : Nat) : List UInt8 := List.replicate n 0
theorem zB_length (n : Nat) : (zB n).length = n := List.length_replicate ..
theorem made_one (z : Value) (n : Nat) : madeCells #[z] n = (List.replicate n z).toArray := by
  apply Array.ext
  · simp [madeCells]
  · intro i h1 h2
    simp [madeCells, Nat.mod_one]
theorem made_zB (n : Nat) : madeCells #[Value.int .u8 0] n = (u8s (zB n)).toArray := by
  rw [made_one]
  unfold u8s zB
  rw [List.map_replicate]
  rfl

theorem infoB1 : (Tryz.prog.info? 5).map (fun i => (i.zero, i.size, i.bytes)) = some (some (.int .u8 0), 1, 1) := by kernel_rfl
theorem infoS1 : (Tryz.prog.info? 9).map (fun i => (i.zero, i.size, i.bytes)) = some (some (.string (mkS [])), 1, 16) := by kernel_rfl
theorem infoF1 : (Tryz.prog.info? 39).map (fun i => (i.zero, i.size, i.bytes)) = some (some (.agg #[.string (mkS []), .slice none 0 0]), 2, 40) := by kernel_rfl
theorem un_bs1 : Tryz.prog.underlying 30 = some (.slice 5) := Tryz.underlying30
theorem un_ss1 : Tryz.prog.underlying 23 = some (.slice 9) := Tryz.underlying23
theorem un_fs1 : Tryz.prog.underlying 22 = some (.slice 39) := Tryz.underlying22

theorem make_zB (w : World) (n : Nat) (hn : n ≤ 281474976710656) : (Instr.makeSlice 30 (.int .i64 (n : Int)) (.int .i64 (n : Int))).run Tryz.prog w = .ok (.slice (some ⟨w.heap.size, 0, none⟩) n n) (w.alloc (.cells (u8s (zB n)).toArray 5)) := by
  obtain ⟨i0, hi, hz0, hz1, hz2⟩ := info_parts infoB1
  have := run_make (P := Tryz.prog) w 30 5 i0 (.int .u8 0) un_bs1 hi hz0 .i64 .i64 n n (by omega) (by omega) (by rw [hz2]; omega) (by omega)
  rw [hz1, show Value.cells (.int .u8 0) = #[.int .u8 0] from rfl, Int.toNat_natCast, Nat.mul_one, made_zB] at this
  exact this
theorem make_ss (w : World) : (Instr.makeSlice 23 (.int .i64 65) (.int .i64 65)).run Tryz.prog w = .ok (.slice (some ⟨w.heap.size, 0, none⟩) 65 65) (w.alloc (.cells (madeCells #[.string (mkS [])] 65) 9)) := by
  obtain ⟨i0, hi, hz0, hz1, hz2⟩ := info_parts infoS1
  have := run_make (P := Tryz.prog) w 23 9 i0 (.string (mkS [])) un_ss1 hi hz0 .i64 .i64 65 65 (by omega) (by omega) (by rw [hz2]; omega) (by omega)
  rw [hz1] at this
  exact this
theorem make_fs (w : World) : (Instr.makeSlice 22 (.int .i64 65) (.int .i64 65)).run Tryz.prog w = .ok (.slice (some ⟨w.heap.size, 0, none⟩) 65 65) (w.alloc (.cells (madeCells #[.string (mkS []), .slice none 0 0] 130) 39)) := by
  obtain ⟨i0, hi, hz0, hz1, hz2⟩ := info_parts infoF1
  have := run_make (P := Tryz.prog) w 22 39 i0 (.agg #[.string (mkS []), .slice none 0 0]) un_fs1 hi hz0 .i64 .i64 65 65 (by omega) (by omega) (by rw [hz2]; omega) (by omega)
  rw [hz1] at this
  exact this

/-- The first m of n like ones. -/
theorem rows_made {α : Type} (cs : α → List Value) (x : α) (k : Nat) (hk : (cs x).length = k) {w : World} {b n m : Nat} {t : TypeId} {fr : Nat × Nat} (h : w.heap[b]? = some (.cells (madeCells (cs x).toArray (n * k)) t fr)) (hm : m ≤ n) (hn : n ≤ maxLen) :
    RowsAt cs k w (.slice (some ⟨b, 0, none⟩) m n) (List.replicate m x) := by
  refine ⟨some ⟨b, 0, none⟩, n, by rw [List.length_replicate], by rw [List.length_replicate]; exact hm, hn, fun _ => ⟨b, 0, rfl, fun i y hy c u hu => ?_⟩⟩
  rw [List.getElem?_replicate] at hy
  split at hy
  case isFalse => cases hy
  case isTrue hi =>
    cases hy
    have hc : c < k := by have := (List.getElem?_eq_some_iff.1 hu).1; omega
    have hlt : i * k + c < n * k := by
      have : (i + 1) * k ≤ n * k := Nat.mul_le_mul_right k (by omega)
      rw [Nat.add_mul, Nat.one_mul] at this; omega
    have hmod : (i * k + c) % k = c := by rw [Nat.mul_comm, Nat.mul_add_mod_self_left, Nat.mod_eq_of_lt hc]
    simp only [World.cell?, h, Nat.zero_add]
    rw [Array.getElem?_eq_getElem (by rw [size_madeCells]; exact hlt)]
    simp only [madeCells, Array.getElem_map, Array.getElem_range, List.size_toArray, hk, hmod]
    rw [getElem!_pos _ _ (by simpa [hk] using hc)]
    have := (List.getElem?_eq_some_iff.1 hu).2
    simpa using this
end Go.Proofs.YtfkpbgookilhjaaGreatDoor
