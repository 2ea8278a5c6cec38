/- Segments and images: how they lie; image.hole. -/
import Derived.Test.YtacmjpkcimjjpaaGreatDoorRow
import Derived.Test.YtacmjpkcimjjpaaGreatDoorRows
namespace Go.Proofs.YtacmjpkcimjjpaaGreatDoor
set_option linter.unusedSimpArgs false
set_option linter.unusedVariables false
open Go.RowKit

/-- A segment; its sections as the slice that it holds. -/
structure Seg where
  name : List UInt8
  addr : Nat
  size : Nat
  off : Nat
  fsize : Nat
  prot : Int
  sp : Option Addr
  sn : Nat
  sc : Nat

def Seg.cells (s : Seg) : Array Value := #[.string (mkS s.name), .int .u64 (s.addr : Int), .int .u64 (s.size : Int), .int .u64 (s.off : Int), .int .u64 (s.fsize : Int), .int .i64 s.prot, .slice s.sp s.sn s.sc]
def Seg.v (s : Seg) : Value := .agg #[.string (mkS s.name), .int .u64 (s.addr : Int), .int .u64 (s.size : Int), .int .u64 (s.off : Int), .int .u64 (s.fsize : Int), .int .i64 s.prot, .slice s.sp s.sn s.sc]

structure Seg.In (s : Seg) : Prop where
  addr : s.addr < 18446744073709551616
  size : s.size < 18446744073709551616
  off : s.off < 18446744073709551616
  fsize : s.fsize < 18446744073709551616

def holeM (s : Seg) : Bool := (s.prot == 0) && (s.fsize == 0)

/-- The slice v reads as these segments. -/
def SegsAt (w : World) (v : Value) (l : List Seg) : Prop :=
  ∃ (p : Option Addr) (cap : Nat), v = .slice p l.length cap ∧ l.length ≤ cap ∧ (cap ≤ maxLen ∧ l.length ≤ 140737488355328) ∧
    (l ≠ [] → ∃ b off, p = some ⟨b, off, none⟩ ∧ ∀ i s, l[i]? = some s → ∀ j x, s.cells[j]? = some x → w.cell? ⟨b, off + i * 7 + j, none⟩ = some x)

theorem SegsAt.nil (w : World) : SegsAt w (.slice none 0 0) [] := ⟨none, 0, rfl, Nat.le_refl _, ⟨Nat.zero_le _, by decide⟩, fun h => absurd rfl h⟩

theorem SegsAt.below {w w' : World} {v : Value} {l : List Seg} (h : SegsAt w v l) (hb : Below w.heap.size w w') : SegsAt w' v l := by
  obtain ⟨p, cap, hv, h1, h2, h3⟩ := h
  refine ⟨p, cap, hv, h1, h2, fun hne => ?_⟩
  obtain ⟨b, off, hp, hc⟩ := h3 hne
  refine ⟨b, off, hp, fun i s hs j x hx => ?_⟩
  have := hc i s hs j x hx
  rw [hb.cell (World.block_lt_of_cell? w _ this)]
  exact this

set_option maxHeartbeats 400000 in
theorem im_hole (w : World) (s : Seg) : Calls Tryz.prog 56 #[s.v] w fun e w' => e = .returned (.bool (holeM s)) ∧ Below w.heap.size w w' := by
  have hb : Below w.heap.size w (w.alloc (.cells s.cells 44)) := (Below.refl _ _).alloc (Nat.le_refl _) _
  have H := hid hb
  clear hb
  unfold Seg.v
  cases hp : s.prot == 0 with
  | false =>
    have hr : holeM s = false := by unfold holeM; rw [hp]; rfl
    rw [hr]
    clear hr
    go_enter Tryz.func56, Tryz.ntmps56
    go_wp2_with fail
    go_ret
    exact ⟨rfl, H.out⟩
  | true =>
    have hr : holeM s = (s.fsize == 0) := by unfold holeM; rw [hp]; rfl
    have hd : ((s.fsize : Int) == 0) = (s.fsize == 0) := by
      rw [Bool.eq_iff_iff, beq_iff_eq, beq_iff_eq]; omega
    rw [hr]
    obtain ⟨R, hR⟩ : ∃ R, R = (s.fsize == 0) := ⟨_, rfl⟩
    rw [← hR] at hd ⊢
    clear hr hR
    go_enter Tryz.func56, Tryz.ntmps56
    go_wp2_with fail
    go_ret
    exact ⟨rfl, H.out⟩
end Go.Proofs.YtacmjpkcimjjpaaGreatDoor
