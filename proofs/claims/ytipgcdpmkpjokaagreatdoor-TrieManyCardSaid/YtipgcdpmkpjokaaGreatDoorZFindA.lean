/- What is said of a name: the callees of Find. -/
import Derived.Test.YtipgcdpmkpjokaaGreatDoorZRead
import Derived.Test.YtipgcdpmkpjokaaGreatDoorZAllB
import Derived.Test.YtipgcdpmkpjokaaGreatDoorZLebM
import Derived.Test.YtipgcdpmkpjokaaGreatDoorShelf
import Derived.Test.YtipgcdpmkpjokaaGreatDoorShelfB
namespace Go.Proofs.YtipgcdpmkpjokaaGreatDoor
set_option linter.unusedSimpArgs false
set_option linter.unusedVariables false
open Go.RowKit

theorem pre_any (s p : List UInt8) (w : World) : Calls Tryz.prog 38 #[.string (mkS s), .string (mkS p)] w fun e w' => e = .returned (.bool (p.isPrefixOf s)) ∧ w = w' := by
  refine (Tryz.strings_HasPrefix (mkS s) (mkS p) w).mono ?_
  rintro e w' ⟨rfl, rfl⟩
  exact ⟨rfl, rfl⟩

set_option maxHeartbeats 400000 in
theorem find_pred (rest : List UInt8) (R : Nat) (w : World) (hR : R < w.heap.size) (hc : w.cell? ⟨R, 0, none⟩ = some (.string (mkS rest))) :
    PredBelow Tryz.prog 37 #[.pointer (some ⟨R, 0, none⟩)] (fun k : KidM => .agg k.cells.toArray) (fun k => k.edge.isPrefixOf rest) w := fun W k hb => by
  have hc' : W.cell? ⟨R, 0, none⟩ = some (.string (mkS rest)) := (hb.cell (p := ⟨R, 0, none⟩) hR).trans hc
  have hRW : R < W.heap.size := Nat.lt_of_lt_of_le hR hb.size
  have hne : R ≠ W.heap.size := by omega
  show Calls Tryz.prog 37 #[.agg #[.string (mkS k.edge), .int .i64 k.to], .pointer (some ⟨R, 0, none⟩)] W _
  have hp := fun W' => pre_any rest k.edge W'
  obtain ⟨b, hbq⟩ : ∃ b, b = k.edge.isPrefixOf rest := ⟨_, rfl⟩
  simp only [← hbq] at hp ⊢
  have H := hid (And.intro hb hp)
  clear hb hp hc hbq
  go_enter Tryz.func37, Tryz.ntmps37
  go_wp2_with fail
  refine (H.out.2 _).mono ?_
  rintro e w' ⟨rfl, rfl⟩
  go_wp2_with fail
  go_ret
  exact ⟨rfl, H.out.1.alloc H.out.1.size _⟩

theorem agg_kid (w : World) : (isAgg 74).run Tryz.prog w = .ok true w := by kernel_rfl
theorem size_kid (w : World) : (Go.sizeOf 74).run Tryz.prog w = .ok 2 w := by kernel_rfl
theorem eg_pred : ∀ (args : Array Value) (w : World), (callFunc 37 args).run Tryz.prog w = .ok (.enter 37 args) w := enters_of Tryz.func37 (by kernel_rfl) rfl

/-- Which child goes on: its place, or -1. -/
def kidIx (ks : List KidM) (rest : List UInt8) : Int := Lib.idxBy (fun _ (y : KidM) => y.edge.isPrefixOf rest) ks default

set_option maxHeartbeats 400000 in
theorem index_kids (W : World) (base R : Nat) (kv : Value) (ks : List KidM) (rest : List UInt8) (h : W.ownsRow base 74 2 kv ks.length (kidCells ks)) (hR : R < W.heap.size) (hc : W.cell? ⟨R, 0, none⟩ = some (.string (mkS rest))) :
    Calls Tryz.prog 36 #[kv, .func (.func 37) #[] #[.pointer (some ⟨R, 0, none⟩)]] W fun e w' => e = .returned (.int .i64 (kidIx ks rest)) ∧ Below W.heap.size W w' := by
  have h0 := h
  rcases Nat.eq_zero_or_pos ks.length with hz | hpos
  · obtain rfl : ks = [] := List.eq_nil_of_length_eq_zero hz
    obtain ⟨p, cap, rfl⟩ := ownsRow_form h
    clear h h0 hc
    go_enter Tryz.func36, Tryz.ntmps36
    go_wp2_with fail
    refine wp_loop_rounds 1 ?_
    rw [rounds_succ]
    go_wp2_with fail
    go_ret
    exact ⟨rfl, Below.refl _ _⟩
  · rcases h.2 with ⟨_, hz⟩ | ⟨g, cap, cur, rfl, hb, hg, hnc, hcm, hcs, htake⟩
    · omega
    · have hlt := (World.ownsRow.lt h0 g rfl).2
      have hf := ownsRow_few h0
      have hS := AnyQ.slices_IndexFunc Tryz.indexF 2 agg_kid size_kid KidM.cells (fun _ => rfl) (fun k => k.edge.isPrefixOf rest) 37 #[.pointer (some ⟨R, 0, none⟩)] eg_pred g 0 ks.length cap ks W (find_pred rest R W hR hc) (Nat.le_refl _) hf hlt (fun j hj i v hi => by
        have hk : ks[j]? = some ks[j]! := by rw [getElem!_pos ks j hj]; exact List.getElem?_eq_getElem hj
        obtain ⟨g1, g2⟩ := kidCells_get ks j _ hk
        have hi2 : i < 2 := by have := (List.getElem?_eq_some_iff.1 hi).1; exact this
        rw [Nat.zero_add, cell_of_row W g (j * 2 + i) _ _ _ hg]
        have hcell : (kidCells ks)[j * 2 + i]? = some v := by
          have : i = 0 ∨ i = 1 := by omega
          rcases this with rfl | rfl
          · rw [Nat.add_zero, g1]; simpa [KidM.cells] using hi
          · rw [g2]; simpa [KidM.cells] using hi
        rw [← htake, List.getElem?_take, if_pos (by omega)] at hcell
        simpa using hcell)
      rw [List.take_length] at hS
      change Calls Tryz.prog 36 _ _ _ at hS
      exact hS

theorem kidIx_some {ks : List KidM} {rest : List UInt8} {i : Nat} {k : KidM} (h : ks[i]? = some k) (hp : k.edge.isPrefixOf rest = true) (hn : ∀ j, j < i → (ks[j]!).edge.isPrefixOf rest = false) : kidIx ks rest = i := by
  have hi := (List.getElem?_eq_some_iff.1 h).1
  have hk : ks[i]! = k := by rw [getElem!_pos ks i hi]; exact (List.getElem?_eq_some_iff.1 h).2
  have := Lib.idxBy_hit (fun _ (y : KidM) => y.edge.isPrefixOf rest) ks ks.length i default hi (Nat.le_refl _) (by show (ks[i]!).edge.isPrefixOf rest = true; rw [hk]; exact hp) hn
  rw [List.take_length] at this
  exact this

theorem kidIx_none {ks : List KidM} {rest : List UInt8} (hn : ∀ j, j < ks.length → (ks[j]!).edge.isPrefixOf rest = false) : kidIx ks rest = -1 := by
  have := Lib.idxBy_miss (fun _ (y : KidM) => y.edge.isPrefixOf rest) ks ks.length default hn
  rw [List.take_length] at this
  exact this

set_option maxHeartbeats 1000000 in
theorem node_told (W : World) (x : Exp) (b : Bool) (p : Option Addr) (n cp : Nat) :
    Calls Tryz.prog 35 #[.agg (nodeCells x b (.slice p n cp))] W fun e w' => e = .returned (.tuple #[.agg (if b then x else Exp.zero).cells.toArray, .bool b, .int .i64 0]) ∧ Below W.heap.size W w' := by
  cases b with
  | false =>
    go_enter Tryz.func35, Tryz.ntmps35
    go_wp2_with fail
    refine bodyPost_ret (v := .tuple #[.agg Exp.zero.cells.toArray, .bool false, .int .i64 0]) (by simp [results, Tryz.results35, go_sem, Exp.cells, Exp.zero, mkS]) rfl ?_
    exact ⟨rfl, ((Below.refl _ _).alloc (Nat.le_refl _) _).alloc (by simp) _⟩
  | true =>
    go_enter Tryz.func35, Tryz.ntmps35
    go_wp2_with fail
    refine bodyPost_ret (v := .tuple #[.agg x.cells.toArray, .bool true, .int .i64 0]) (by simp [results, Tryz.results35, go_sem, Exp.cells]) rfl ?_
    exact ⟨rfl, ((Below.refl _ _).alloc (Nat.le_refl _) _).alloc (by simp) _⟩
end Go.Proofs.YtipgcdpmkpjokaaGreatDoor
