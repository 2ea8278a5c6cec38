/- What is said of a name: the callees of Find. -/
import Derived.Test.YthhjdkcnkdffcaaGreatZRead
import Derived.Test.YthhjdkcnkdffcaaGreatZAllB
import Derived.Test.YthhjdkcnkdffcaaGreatZLebM
import Derived.Test.YthhjdkcnkdffcaaGreatShelf
import Derived.Test.YthhjdkcnkdffcaaGreatShelfB
import Derived.MapKept
namespace Go.Proofs.YthhjdkcnkdffcaaGreat
set_option linter.unusedSimpArgs false
set_option linter.unusedVariables false
open Go.RowKit
theorem pre_any (s p : List UInt8) (w : World) : Calls Tryz.prog 116 #[.string (mkS s), .string (mkS p)] w fun e w' => e = .returned (.bool (p.isPrefixOf s)) ∧ w = w' := by
  refine (Tryz.strings_HasPrefix (mkS s) (mkS p) w).mono ?_
  rintro e w' ⟨rfl, rfl⟩
  exact ⟨rfl, rfl⟩
set_option maxHeartbeats 400000 in
theorem find_pred (rest : List UInt8) (R : Nat) (w : World) (hR : R < w.heap.size) (hc : w.cell? ⟨R, 0, none⟩ = some (.string (mkS rest))) :
    PredBelow Tryz.prog 115 #[.pointer (some ⟨R, 0, none⟩)] (fun k : KidM => .agg k.cells.toArray) (fun k => k.edge.isPrefixOf rest) w := fun W k hb => by
  have hc' : W.cell? ⟨R, 0, none⟩ = some (.string (mkS rest)) := (hb.cell (p := ⟨R, 0, none⟩) hR).trans hc
  have hRW : R < W.heap.size := Nat.lt_of_lt_of_le hR hb.size
  have hne : R ≠ W.heap.size := by omega
  show Calls Tryz.prog 115 #[.agg #[.string (mkS k.edge), .int .i64 k.to], .pointer (some ⟨R, 0, none⟩)] W _
  have hp := fun W' => pre_any rest k.edge W'
  obtain ⟨b, hbq⟩ : ∃ b, b = k.edge.isPrefixOf rest := ⟨_, rfl⟩
  simp only [← hbq] at hp ⊢
  have H := hid (And.intro hb hp)
  clear hb hp hc hbq
  go_enter Tryz.func115, Tryz.ntmps115
  go_wp2_with fail
  refine (H.out.2 _).mono ?_
  rintro e w' ⟨rfl, rfl⟩
  go_wp2_with fail
  go_ret
  exact ⟨rfl, H.out.1.alloc H.out.1.size _⟩
theorem agg_kid (w : World) : (isAgg 193).run Tryz.prog w = .ok true w := by kernel_rfl
theorem size_kid (w : World) : (Go.sizeOf 193).run Tryz.prog w = .ok 2 w := by kernel_rfl
theorem eg_pred : ∀ (args : Array Value) (w : World), (callFunc 115 args).run Tryz.prog w = .ok (.enter 115 args) w := enters_of Tryz.func115 (by kernel_rfl) rfl
/-- Which child goes on: its place, or -1. -/
def kidIx (ks : List KidM) (rest : List UInt8) : Int := Lib.idxBy (fun _ (y : KidM) => y.edge.isPrefixOf rest) ks default
set_option maxHeartbeats 400000 in
theorem index_kids (W : World) (base R : Nat) (kv : Value) (ks : List KidM) (rest : List UInt8) (h : W.ownsRow base 193 2 kv ks.length (kidCells ks)) (hR : R < W.heap.size) (hc : W.cell? ⟨R, 0, none⟩ = some (.string (mkS rest))) :
    Calls Tryz.prog 114 #[kv, .func (.func 115) #[] #[.pointer (some ⟨R, 0, none⟩)]] W fun e w' => e = .returned (.int .i64 (kidIx ks rest)) ∧ Below W.heap.size W w' := by
  have h0 := h
  rcases Nat.eq_zero_or_pos ks.length with hz | hpos
  · obtain rfl : ks = [] := List.eq_nil_of_length_eq_zero hz
    obtain ⟨p, cap, rfl⟩ := ownsRow_form h
    clear h h0 hc
    go_enter Tryz.func114, Tryz.ntmps114
    go_wp2_with fail
    refine wp_loop_rounds 1 ?_
    rw [rounds_succ]
    go_wp2_with fail
    go_ret
    exact ⟨rfl, Below.refl _ _⟩
  · rcases h.2 with ⟨_, hz⟩ | ⟨g, cap, cur, rfl, hb, hg, hnc, hcm, hcs, htake⟩
    · omega
    · have hlt := (World.ownsRow.lt h0 g rfl).2
      have hf := ownsRow_few h0
      have hS := AnyQ.slices_IndexFunc Tryz.indexF 2 agg_kid size_kid KidM.cells (fun _ => rfl) (fun k => k.edge.isPrefixOf rest) 115 #[.pointer (some ⟨R, 0, none⟩)] eg_pred g 0 ks.length cap ks W (find_pred rest R W hR hc) (Nat.le_refl _) hf hlt (fun j hj i v hi => by
        have hk : ks[j]? = some ks[j]! := by rw [getElem!_pos ks j hj]; exact List.getElem?_eq_getElem hj
        obtain ⟨g1, g2⟩ := kidCells_get ks j _ hk
        have hi2 : i < 2 := by have := (List.getElem?_eq_some_iff.1 hi).1; exact this
        rw [Nat.zero_add, cell_of_row W g (j * 2 + i) _ _ _ hg]
        have hcell : (kidCells ks)[j * 2 + i]? = some v := by
          have : i = 0 ∨ i = 1 := by omega
          rcases this with rfl | rfl
          · rw [Nat.add_zero, g1]; simpa [KidM.cells] using hi
          · rw [g2]; simpa [KidM.cells] using hi
        rw [← htake, List.getElem?_take, if_pos (by omega)] at hcell
        simpa using hcell)
      rw [List.take_length] at hS
      change Calls Tryz.prog 114 _ _ _ at hS
      exact hS
theorem kidIx_some {ks : List KidM} {rest : List UInt8} {i : Nat} {k : KidM} (h : ks[i]? = some k) (hp : k.edge.isPrefixOf rest = true) (hn : ∀ j, j < i → (ks[j]!).edge.isPrefixOf rest = false) : kidIx ks rest = i := by
  have hi := (List.getElem?_eq_some_iff.1 h).1
  have hk : ks[i]! = k := by rw [getElem!_pos ks i hi]; exact (List.getElem?_eq_some_iff.1 h).2
  have := Lib.idxBy_hit (fun _ (y : KidM) => y.edge.isPrefixOf rest) ks ks.length i default hi (Nat.le_refl _) (by show (ks[i]!).edge.isPrefixOf rest = true; rw [hk]; exact hp) hn
  rw [List.take_length] at this
  exact this
theorem kidIx_none {ks : List KidM} {rest : List UInt8} (hn : ∀ j, j < ks.length → (ks[j]!).edge.isPrefixOf rest = false) : kidIx ks rest = -1 := by
  have := Lib.idxBy_miss (fun _ (y : KidM) => y.edge.isPrefixOf rest) ks ks.length default hn
  rw [List.take_length] at this
  exact this
set_option maxHeartbeats 1000000 in
theorem node_told (W : World) (x : Exp) (b : Bool) (p : Option Addr) (n cp : Nat) :
    Calls Tryz.prog 113 #[.agg (nodeCells x b (.slice p n cp))] W fun e w' => e = .returned (.tuple #[.agg (if b then x else Exp.zero).cells.toArray, .bool b, .int .i64 0]) ∧ Below W.heap.size W w' := by
  cases b with
  | false =>
    go_enter Tryz.func113, Tryz.ntmps113
    go_wp2_with fail
    refine bodyPost_ret (v := .tuple #[.agg Exp.zero.cells.toArray, .bool false, .int .i64 0]) (by simp [results, Tryz.results113, go_sem, Exp.cells, Exp.zero, mkS]) rfl ?_
    exact ⟨rfl, ((Below.refl _ _).alloc (Nat.le_refl _) _).alloc (by simp) _⟩
  | true =>
    go_enter Tryz.func113, Tryz.ntmps113
    go_wp2_with fail
    refine bodyPost_ret (v := .tuple #[.agg x.cells.toArray, .bool true, .int .i64 0]) (by simp [results, Tryz.results113, go_sem, Exp.cells]) rfl ?_
    exact ⟨rfl, ((Below.refl _ _).alloc (Nat.le_refl _) _).alloc (by simp) _⟩
end Go.Proofs.YthhjdkcnkdffcaaGreat

namespace Go.Proofs.YthhjdkcnkdffcaaGreat
set_option linter.unusedSimpArgs false
set_option linter.unusedVariables false
open Go.RowKit
theorem setCell_self {W : World} {X : Nat} {t : TypeId} {vs : Array Value} (h : RowAt W X t vs) (i : Nat) (v : Value) (hi : vs[i]? = some v) : W.setCell ⟨X, i, none⟩ v = W := by
  have e : vs.setIfInBounds i v = vs := by
    apply Array.ext_getElem?
    intro j
    rw [Array.getElem?_setIfInBounds]
    split
    · rename_i hij
      subst hij
      split
      · exact hi.symm
      · rename_i hlt
        rw [Array.getElem?_eq_none (by omega)]
    · rfl
  have hh : (W.setCell ⟨X, i, none⟩ v).heap = W.heap := by
    apply Array.ext_getElem?
    intro j
    by_cases hj : j = X
    · subst hj
      rw [heap_setCell_same _ _ _ _ _ _ h, e]; exact h.symm
    · exact heap_setCell_other W _ j v (by simpa using hj)
  cases W with
  | mk heap tape drawn os output =>
    simp only [World.setCell] at hh ⊢
    rw [hh]
section
variable {w W W' : World} {X c K k k' : Nat} {l rest : List UInt8} {walk : List Int} {vw vw' : Value}
end
theorem mkS_drop (r : List UInt8) (k : Nat) : (mkS r).extract k r.length = mkS (r.drop k) := by
  apply ByteArray.ext
  rw [ByteArray.data_extract]
  simp [mkS, List.extract_eq_take_drop]
  exact List.take_of_length_le (by simp)
/-- A child's two cells. -/
theorem kb_at {W : World} {base : Nat} {kv : Value} {ks : List KidM} (h : W.ownsRow base 193 2 kv ks.length (kidCells ks)) {i : Nat} {k : KidM} (hk : ks[i]? = some k) :
    ∃ g cap, kv = .slice (some ⟨g, 0, none⟩) ks.length cap ∧ g < W.heap.size ∧ W.cell? ⟨g, i * 2, none⟩ = some (.string (mkS k.edge)) ∧ W.cell? ⟨g, i * 2 + 1, none⟩ = some (.int .i64 k.to) := by
  have hlt := (List.getElem?_eq_some_iff.1 hk).1
  rcases h.2 with ⟨_, h1⟩ | ⟨g, cap, cur, rfl, h2, hg, h3, h4, h5, h6⟩
  · omega
  · obtain ⟨h7, h8⟩ := kidCells_get ks i k hk
    refine ⟨g, cap, rfl, (World.ownsRow.lt h g rfl).2, ?_, ?_⟩
    · rw [cell_of_row W g (i * 2) _ _ _ hg]
      rw [← h6, List.getElem?_take, if_pos (by omega)] at h7
      simpa using h7
    · rw [cell_of_row W g (i * 2 + 1) _ _ _ hg]
      rw [← h6, List.getElem?_take, if_pos (by omega)] at h8
      simpa using h8
end Go.Proofs.YthhjdkcnkdffcaaGreat
