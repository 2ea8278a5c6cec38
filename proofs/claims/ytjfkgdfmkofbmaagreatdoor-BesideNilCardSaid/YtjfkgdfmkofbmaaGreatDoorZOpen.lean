/- How arguments that came in are opened, in these proofs' words. -/
import Derived.Test.YtjfkgdfmkofbmaaGreatDoorZKit
import Derived.ProofKit
import Derived.OpenShut
import Derived.ShutString
import Derived.ChangeOld
namespace Go.Proofs.YtjfkgdfmkofbmaaGreatDoor
set_option linter.unusedSimpArgs false
set_option linter.unusedVariables false
open Go.ChangeShapes Go.WideShapes Go.ChangeAt Go.RowKit

theorem wf_u8 {n : Int} (h : (Lit.int .u8 n).wf = true) : 0 ≤ n ∧ n ≤ 255 := by simpa [Lit.wf, IntKind.min, IntKind.max, IntKind.signed, IntKind.bits] using h
theorem wf_u64 {n : Int} (h : (Lit.int .u64 n).wf = true) : 0 ≤ n ∧ n ≤ 18446744073709551615 := by simpa [Lit.wf, IntKind.min, IntKind.max, IntKind.signed, IntKind.bits] using h
theorem wf_i64 {n : Int} (h : (Lit.int .i64 n).wf = true) : -9223372036854775808 ≤ n ∧ n ≤ 9223372036854775807 := by simpa [Lit.wf, IntKind.min, IntKind.max, IntKind.signed, IntKind.bits] using h

theorem byte_of {n : Int} (h : (Lit.int .u8 n).wf = true) : ∃ x : UInt8, n = (x.toNat : Int) := by
  have hb := wf_u8 h
  exact ⟨UInt8.ofNat n.toNat, by simp; omega⟩

/-- A list of cells that are bytes. -/
theorem u8s_of : ∀ L : List Value, (∀ v ∈ L, ∃ x : UInt8, v = .int .u8 (x.toNat : Int)) → ∃ xs : List UInt8, L = u8s xs
  | [], _ => ⟨[], rfl⟩
  | v :: r, h => by
    obtain ⟨x, rfl⟩ := h v (by simp)
    obtain ⟨xs, rfl⟩ := u8s_of r (fun v hv => h v (by simp [hv]))
    exact ⟨x :: xs, rfl⟩

section
variable {H : Type} {enc : TypeId × Value → H} {P : Program} {W : World} {base base' : Nat} {sp : Nat → Bool} {held : Bool}

/-- A []byte. -/
theorem open_bs {t e : TypeId} {v : Value} {d : DataW H} {p : List MemPlace} (ht : P.underlying t = some (.slice e)) (he : P.underlying e = some (.int .u8)) (hc : P.cellsOf e = 1)
    (hv : Value.okWide P W .any base' t v) (h : DataW.Trod enc P W base sp held t v d p) :
    ∃ a len cap, v = .slice a len cap ∧ (len ≤ 140737488355328 → ∃ l, BS W (.slice a len cap) l) := by
  obtain ⟨a, len, cap, rfl⟩ := okWide_slice ht hv
  refine ⟨a, len, cap, rfl, fun hbig => ?_⟩
  obtain ⟨fuel, hf⟩ := h
  rcases open_ints ht he hc hf with ⟨hcs, _⟩ | ⟨x, l, c, zs, hcs, _, hl, hm, hz, _, hcell, hwz⟩
  · simp [Value.cells] at hcs
    obtain ⟨rfl, rfl, rfl⟩ := hcs
    exact ⟨[], none, 0, rfl, Nat.le_refl _, ⟨Nat.zero_le _, by simp⟩, fun h => absurd rfl h⟩
  · simp [Value.cells] at hcs
    obtain ⟨rfl, rfl, rfl⟩ := hcs
    have hz' : len ≤ zs.length := by rw [hz]; split <;> omega
    obtain ⟨xs, hxs⟩ := u8s_of ((zs.take len).map (Value.int .u8)) (fun v hv => by
      obtain ⟨n, hn, rfl⟩ := List.mem_map.1 hv
      obtain ⟨x, rfl⟩ := byte_of (hwz n (List.mem_of_mem_take hn))
      exact ⟨x, rfl⟩)
    have hlen : xs.length = len := by
      have := congrArg List.length hxs
      simp [u8s] at this; omega
    refine ⟨xs, some x, cap, by rw [hlen], by omega, ⟨hm, by omega⟩, fun hne => ?_⟩
    have hpos : 0 < len := by rw [← hlen]; exact List.length_pos_iff.2 hne
    obtain ⟨b, off, spot⟩ := x
    have h0 := hcell 0 (by omega)
    have hspot : spot = none := by simpa [Addr.add] using World.cell?_spot h0
    subst hspot
    refine ⟨b, off, rfl, fun i y hy => ?_⟩
    have hi : i < len := by have := (List.getElem?_eq_some_iff.1 hy).1; omega
    have hci := hcell i (by omega)
    have ea : (⟨b, off, none⟩ : Addr).add i = ⟨b, off + i, none⟩ := by unfold Addr.add; split <;> simp_all
    rw [ea] at hci
    rw [hci]
    have e1 : ((zs.take len).map (Value.int .u8))[i]? = some (Value.int .u8 (zs.getD i 0)) := by
      rw [List.getElem?_map, List.getElem?_take_of_lt hi, List.getElem?_eq_getElem (by omega)]
      simp [List.getElem?_eq_getElem (show i < zs.length by omega)]
    rw [hxs] at e1
    simp [u8s, hy] at e1
    simp [e1]

/-- A [n]byte by value. -/
theorem open_arr {t e : TypeId} {n : Nat} {v : Value} {d : DataW H} {p : List MemPlace} (ht : P.underlying t = some (.array n e)) (he : P.underlying e = some (.int .u8)) (hc : P.cellsOf e = 1) (hC : P.cellsOf t = n)
    (hv : Value.okWide P W .any base' t v) (h : DataW.Trod enc P W base sp held t v d p) : ∃ xs : List UInt8, xs.length = n ∧ v = .agg (u8s xs).toArray := by
  unfold Value.okWide at hv
  rw [ht] at hv
  obtain ⟨cs, rfl, hsz, -⟩ := hv
  obtain ⟨fuel, hf⟩ := h
  obtain ⟨ys, m, -, -, hl, hyl, hall⟩ := DataW.trod_array ht hf
  have hcl : cs.toList.length = n := by simpa using hsz.trans hC
  obtain ⟨xs, hxs⟩ := u8s_of cs.toList (fun v hv => by
    obtain ⟨i, hi, rfl⟩ := List.mem_iff_getElem.1 hv
    have h1 := hall i (by omega)
    rw [hc, Nat.mul_one] at h1
    have e1 : ((Value.agg cs).cells.toList.drop i).take 1 = [cs.toList[i]] := by
      show (cs.toList.drop i).take 1 = _
      rw [List.take_one, List.head?_drop, List.getElem?_eq_getElem hi]; rfl
    rw [e1, List.getElem?_eq_getElem (by omega)] at h1
    obtain ⟨a, e0, -, wa⟩ := DataW.trod_int he h1
    obtain ⟨x, rfl⟩ := byte_of wa
    simp at e0
    exact ⟨x, e0⟩)
  refine ⟨xs, ?_, ?_⟩
  · have := congrArg List.length hxs
    simp [u8s] at this; simp at hcl; omega
  · rw [← hxs]
end

end Go.Proofs.YtjfkgdfmkofbmaaGreatDoor
