/- trie.Find where the listed variable may be anything, as long as all can be read. -/
import Derived.Test.YthhjdkcnkdffcaaGreatZEbR
import Derived.Test.YthhjdkcnkdffcaaGreatZFindA
import Derived.MapKept
namespace Go.Proofs.YthhjdkcnkdffcaaGreat.Eb
set_option linter.unusedSimpArgs false
set_option linter.unusedVariables false
open Go.RowKit
/-- What stands while a name is looked for. -/
structure FS (Bad : Prop) (w W : World) (X c K : Nat) (l : List UInt8) (k : Nat) (rest : List UInt8) (walk : List Int) (vw : Value) : Prop where
  res : RowAt W X 25 Exp.zero.cells.toArray
  cur : CuAt W c l ⟨k, false⟩
  ro : RowAt W K 9 #[.string (mkS rest)]
  wal : W.ownsRow (c + 1) 3 1 vw walk.length (intCells walk)
  nK : vw.ownBlock ≠ some K
  low : Below w.heap.size w W
  et0 : EZ Bad w
  ord : w.heap.size ≤ X ∧ X < c ∧ c < K
section
variable {Bad : Prop} {w W W' : World} {X c K k k' : Nat} {l rest : List UInt8} {walk : List Int} {vw vw' : Value}
theorem FS.et (h : FS Bad w W X c K l k rest walk vw) : EZ Bad W := fun a => by
  have hlt := lt_of_cellB (h.et0 a)
  have := h.et0 a
  unfold ET at this ⊢
  rw [h.low.cell (p := ⟨0, 0, none⟩) hlt]; exact this
theorem FS.call (h : FS Bad w W X c K l k rest walk vw) (hc : CuAt W' c l ⟨k', false⟩) (hg : W.grownBy W' (some c)) : FS Bad w W' X c K l k' rest walk vw := by
  have ho := h.ord
  refine ⟨h.res.grown hg (fun e => by have := Option.some.inj e; omega), hc, h.ro.grown hg (fun e => by have := Option.some.inj e; omega), h.wal.kept hg (.inr (fun e => by have := (World.ownsRow.lt h.wal c e).1; omega)), h.nK, ?_, h.et0, ho⟩
  exact h.low.grown hg h.low.size (fun j e => by have := Option.some.inj e; omega)
theorem FS.below (h : FS Bad w W X c K l k rest walk vw) (hb : Below W.heap.size W W') : FS Bad w W' X c K l k rest walk vw :=
  h.call (CurAt.below h.cur hb) (Below.all hb _)
theorem FS.put (h : FS Bad w W X c K l k rest walk vw) {a : Int} (hg : Grew W W' vw vw') (ho : W'.ownsRow (c + 1) 3 1 vw' (walk ++ [a]).length (intCells (walk ++ [a]))) : FS Bad w W' X c K l k rest (walk ++ [a]) vw' := by
  have hO := h.ord
  have hX := h.res.lt
  have hK := h.ro.lt
  have hn : ∀ j, j ≤ c → vw.ownBlock ≠ some j := fun j hj e => by have := (World.ownsRow.lt h.wal j e).1; omega
  refine ⟨(hg.block hX (hn X (by omega))).trans h.res, CurAt.block h.cur (fun j hj => hg.block (by omega) (hn j hj)), (hg.block hK h.nK).trans h.ro, ho, ?_, ?_, h.et0, hO⟩
  · intro e
    rcases hg.lies with h1 | ⟨i, h1, h2⟩
    · exact h.nK (h1.symm.trans e)
    · rw [h1] at e; cases e; omega
  · exact h.low.trans ((hg.below (B := c + 1) (by omega) (fun j e => (World.ownsRow.lt h.wal j e).1)).mono (by omega))
theorem FS.far (h : FS Bad w W X c K l k rest walk vw) {N i : Nat} (hN : c < N) (hK : K ≠ N) (hv : vw.ownBlock ≠ some N) (u : Value) : FS Bad w (W.setCell ⟨N, i, none⟩ u) X c K l k rest walk vw := by
  have hO := h.ord
  exact ⟨h.res.other (by omega) u, CurAt.setFar h.cur hN u, h.ro.other hK u, ownsRow_setOther h.wal hv u, h.nK, h.low.setCell (by show w.heap.size ≤ N; omega) u, h.et0, hO⟩
/-- What is left of the name goes into a new block. -/
theorem FS.on (h : FS Bad w W X c K l k rest walk vw) (r : List UInt8) : FS Bad w ((W.setCell ⟨K, 0, none⟩ (.string (mkS r))).alloc (.cells #[.string (mkS r)] 9)) X c W.heap.size l k r walk vw := by
  have hO := h.ord
  have hK := h.ro.lt
  have h1 : FS Bad w (W.setCell ⟨K, 0, none⟩ (.string (mkS r))) X c K l k r walk vw := by
    refine ⟨h.res.other (by omega) _, CurAt.setFar h.cur (by omega) _, ?_, ownsRow_setOther h.wal h.nK _, h.nK, h.low.setCell (by show w.heap.size ≤ K; omega) _, h.et0, hO⟩
    unfold RowAt; rw [heap_setCell_same _ _ _ _ _ _ h.ro]; rfl
  have hs : (W.setCell ⟨K, 0, none⟩ (.string (mkS r))).heap.size = W.heap.size := by simp [World.setCell]
  have h2 := h1.below ((Below.refl _ _).alloc (Nat.le_refl _) (.cells #[.string (mkS r)] 9))
  refine ⟨h2.res, h2.cur, ?_, h2.wal, fun e => ?_, h2.low, h2.et0, hO.1, hO.2.1, by omega⟩
  · rw [← hs]; exact heap_alloc_new _ _
  · have := (World.ownsRow.lt h.wal W.heap.size e).2; omega
end
def FRel (Bad : Prop) (w : World) (X c : Nat) (l name : List UInt8) (r : Exp × Bool × Nat) (k : Nat) (v8 v9 v10 : Value) (wr : World) : Prop :=
  ∃ at_ rest walk K kk, v9 = .int .i64 at_ ∧ v10 = .pointer (some ⟨K, 0, none⟩) ∧ rest.length = k ∧ walk.length + rest.length ≤ 255 ∧ at_ < (l.length : Int) ∧ FS Bad w wr X c K l kk rest walk v8 ∧ findF l name (rest.length + 1) at_ rest walk = r
set_option maxHeartbeats 2000000 in
set_option maxRecDepth 4000 in
theorem trie_find {Bad : Prop} (w : World) (p : Option Addr) (n cap : Nat) (l name : List UInt8) (h : BS w (.slice p n cap) l) (het : EZ Bad w) (hbd : (findT l name).2.2 ≠ 0 → Bad) :
    Calls Tryz.prog 105 #[.slice p n cap, .string (mkS name)] w fun e w' => e = .returned (.tuple #[.agg (findT l name).1.cells.toArray, .bool (findT l name).2.1, .int .i64 ((findT l name).2.2 : Int)]) ∧ Below w.heap.size w w' := by
  obtain rfl := h.len
  have hcp := h.cap
  by_cases h255 : 255 < name.length
  · have hd1 : decide ((255 : Int) < (name.length : Int)) = true := by simp; omega
    have hd2 : decide (255 < name.length) = true := by simp; omega
    have Hr := hid (show findT l name = (Exp.zero, false, 10) from by unfold findT; rw [if_pos h255])
    clear h255 h
    go_enter Tryz.func105, Tryz.ntmps105
    go_wp2_with fail
    refine bodyPost_ret (v := .tuple #[.agg Exp.zero.cells.toArray, .bool false, .int .i64 10]) (by simp [results, Tryz.results105, go_sem, Exp.cells, Exp.zero, mkS]) rfl ?_
    rw [Hr.out]
    refine ⟨rfl, ?_⟩
    repeat first | exact Below.refl _ _ | refine Below.setCell ?_ (Nat.le_refl _) _ | refine Below.alloc ?_ (Nat.le_refl _) _
  have hd1 : decide ((255 : Int) < (name.length : Int)) = false := by simp; omega
  have hd2 : decide (255 < name.length) = false := by simp; omega
  by_cases hne : l = []
  · subst hne
    have Hr := hid (show findT [] name = (Exp.zero, false, 0) from by unfold findT; rw [if_neg h255, if_pos rfl])
    clear h255 h
    go_enter Tryz.func105, Tryz.ntmps105
    go_wp2_with fail
    refine bodyPost_ret (v := .tuple #[.agg Exp.zero.cells.toArray, .bool false, .int .i64 0]) (by simp [results, Tryz.results105, go_sem, Exp.cells, Exp.zero, mkS]) rfl ?_
    rw [Hr.out]
    refine ⟨rfl, ?_⟩
    repeat first | exact Below.refl _ _ | refine Below.setCell ?_ (Nat.le_refl _) _ | refine Below.alloc ?_ (Nat.le_refl _) _
  have hpos := List.length_pos_iff.2 hne
  have hd3 : ((l.length : Int) == 0) = false := by rw [beq_eq_false_iff_ne]; omega
  have hd4 : (l.length == 0) = false := by rw [beq_eq_false_iff_ne]; omega
  have Hr := hid (show findT l name = findF l name (name.length + 1) 0 name [] from by unfold findT; rw [if_neg h255, if_neg hne])
  obtain ⟨r, hr⟩ : ∃ r, r = findT l name := ⟨_, rfl⟩
  rw [← hr] at Hr hbd ⊢
  have H0 := hid (And.intro (h.below ((Below.refl _ _).alloc (Nat.le_refl _) (.cells Exp.zero.cells.toArray 25))) (And.intro het (And.intro hne (And.intro h255 hbd))))
  clear h het hne h255 hr hbd
  go_enter Tryz.func105, Tryz.ntmps105
  go_wp2_with fail
  refine (cur_new (w.alloc (.cells Exp.zero.cells.toArray 25)) p l.length cap l false H0.out.1).mono ?_
  rintro e w1 ⟨c, rfl, hc, hcu, hb⟩
  have hsz0 : (w.alloc (.cells Exp.zero.cells.toArray 25)).heap.size = w.heap.size + 1 := by simp
  rw [hsz0] at hc hb
  clear hsz0
  have hres : RowAt w1 w.heap.size 25 Exp.zero.cells.toArray := (hb.block w.heap.size (by omega)).trans (heap_alloc_new w _)
  have hlow : Below w.heap.size w w1 := ((Below.refl _ _).alloc (Nat.le_refl _) _).trans (hb.mono (by omega))
  have h1 := CurAt.lt hcu
  have hS : FS Bad w (w1.alloc (.cells #[.string (mkS name)] 9)) w.heap.size c w1.heap.size l 0 name [] (.slice none 0 0) := by
    have hba : Below w1.heap.size w1 (w1.alloc (.cells #[.string (mkS name)] 9)) := (Below.refl _ _).alloc (Nat.le_refl _) _
    exact ⟨(hba.block _ hres.lt).trans hres, CurAt.below hcu hba, heap_alloc_new _ _, World.ownsRow_nil _ _ _ _, (fun e => by cases e), hlow.trans (hba.mono (by have := hlow.size; omega)), H0.out.2.1, Nat.le_refl _, by omega, h1⟩
  have H1 := hid hS
  clear hc hcu hb hres hlow h1 hS
  go_wp2_with fail
  obtain ⟨X, hX⟩ : ∃ X, X = w.heap.size := ⟨_, rfl⟩
  have HX := hid hX
  rw [← hX] at H1
  try rw [← hX]
  clear hX
  go_loopg [8, 9, 10] name.length (fun k v8 v9 v10 wr => FRel Bad w X c l name r k v8 v9 v10 wr)
  case atStart => exact ⟨0, name, [], w1.heap.size, 0, rfl, rfl, rfl, by simp; have := H0.out.2.2.2.1; omega, by omega, H1.out, Hr.out.symm⟩
  case round =>
    obtain ⟨at_, rest, walk, K, kk, rfl, rfl, hk, hwl, hat, hS, hfi⟩ := hrel
    have x0 : wr.cell? ⟨X, 0, none⟩ = some (.string ⟨#[]⟩) := cell_of_row wr X 0 _ _ _ hS.res
    have x1 : wr.cell? ⟨X, 1, none⟩ = some (.int .i64 0) := cell_of_row wr X 1 _ _ _ hS.res
    have x2 : wr.cell? ⟨X, 2, none⟩ = some (.bool false) := cell_of_row wr X 2 _ _ _ hS.res
    have x3 : wr.cell? ⟨X, 3, none⟩ = some (.int .u64 0) := cell_of_row wr X 3 _ _ _ hS.res
    have x4 : wr.cell? ⟨X, 4, none⟩ = some (.int .u64 0) := cell_of_row wr X 4 _ _ _ hS.res
    have x5 : wr.cell? ⟨X, 5, none⟩ = some (.int .u64 0) := cell_of_row wr X 5 _ _ _ hS.res
    have x6 : wr.cell? ⟨X, 6, none⟩ = some (.string ⟨#[]⟩) := cell_of_row wr X 6 _ _ _ hS.res
    have xf : ∀ i, wr.frozen? ⟨X, i, none⟩ = false := fun i => frozen_of_row wr X i _ _ hS.res
    have z0 : wr.setCell ⟨X, 0, none⟩ (.string ⟨#[]⟩) = wr := setCell_self hS.res 0 _ rfl
    have z1 : wr.setCell ⟨X, 1, none⟩ (.int .i64 0) = wr := setCell_self hS.res 1 _ rfl
    have z2 : wr.setCell ⟨X, 2, none⟩ (.bool false) = wr := setCell_self hS.res 2 _ rfl
    have z3 : wr.setCell ⟨X, 3, none⟩ (.int .u64 0) = wr := setCell_self hS.res 3 _ rfl
    have z4 : wr.setCell ⟨X, 4, none⟩ (.int .u64 0) = wr := setCell_self hS.res 4 _ rfl
    have z5 : wr.setCell ⟨X, 5, none⟩ (.int .u64 0) = wr := setCell_self hS.res 5 _ rfl
    have z6 : wr.setCell ⟨X, 6, none⟩ (.string ⟨#[]⟩) = wr := setCell_self hS.res 6 _ rfl
    have HS := hid (And.intro hS hfi)
    have Hk := hid hk
    clear hS hfi hk
    by_cases hneg : at_ < 0
    · have hd5 : decide (at_ < 0) = true := by simp; omega
      have HN := hid hneg
      clear hneg
      go_wp2_with fail
      refine bodyPost_ret (v := .tuple #[.agg Exp.zero.cells.toArray, .bool false, .int .i64 12]) (by simp [results, Tryz.results105, go_sem, Exp.cells, Exp.zero, mkS, x0, x1, x2, x3, x4, x5, x6]) rfl ?_
      have he := HS.out.2
      rw [findF_lost (.inl HN.out)] at he
      rw [← he]
      exact ⟨rfl, HX.out ▸ HS.out.1.low⟩
    obtain ⟨a, rfl⟩ : ∃ a : Nat, at_ = a := ⟨at_.toNat, by omega⟩
    have hd5 : decide ((a : Int) < 0) = false := by simp
    have HN := hid hneg
    clear hneg
    obtain ⟨wp, wcap, hvw⟩ := ownsRow_form HS.out.1.wal
    subst hvw
    have Hhas := hid (has_int wr (c + 1) 3 _ walk a HS.out.1.wal (by omega))
    obtain ⟨hb, hhb⟩ : ∃ hb, hb = walk.contains (a : Int) := ⟨_, rfl⟩
    rw [← hhb] at Hhas
    have Hhb := hid hhb
    clear hhb
    go_wp2_with fail
    refine Hhas.out.mono ?_
    rintro e w' ⟨rfl, rfl⟩
    cases hb with
    | true =>
      go_wp2_with fail
      refine bodyPost_ret (v := .tuple #[.agg Exp.zero.cells.toArray, .bool false, .int .i64 12]) (by simp [results, Tryz.results105, go_sem, Exp.cells, Exp.zero, mkS, x0, x1, x2, x3, x4, x5, x6]) rfl ?_
      have he := HS.out.2
      rw [findF_lost (.inr Hhb.out.symm)] at he
      rw [← he]
      exact ⟨rfl, HX.out ▸ HS.out.1.low⟩
    | false =>
      have HW := hid (show ¬ ((a : Int) < 0 ∨ walk.contains (a : Int) = true) from fun h => h.elim (fun h => by have := HN.out; omega) (fun h => by rw [← Hhb.out] at h; cases h))
      clear x0 x1 x2 x3 x4 x5 x6 xf z0 z1 z2 z3 z4 z5 z6
      obtain ⟨i0, hi, hz0, hz1, hz2⟩ := info_parts Tryz.infoInt
      have H8 := hid (And.intro hi (And.intro hz0 (And.intro hz1 hz2)))
      clear hi hz0 hz1 hz2
      have hcs : c + 1 ≤ wr.heap.size := CurAt.lt HS.out.1.cur
      go_wp2_with (at_builtin; refine wpList_append_grew _ rfl _ _ _ _ rfl (c + 1) 3 i0 _ 1 8 Tryz.underlying66 H8.out.1 H8.out.2.1 H8.out.2.2.1 H8.out.2.2.2 rfl _ walk.length (intCells walk) rfl (ownsRow_below HS.out.1.wal ((Below.refl _ _).alloc (Nat.le_refl _) _)) _ 1 [.int .i64 (a : Int)] rfl (Src.laid _ Tryz.underlying66 [.int .i64 (a : Int)] 1 rfl (by simp [Value.oneCell']) (0, 0) (by simp)) ?c3 ?c4 ?c5 ?_)
      case c3 => exact Nat.le_trans (show walk.length + 1 ≤ 5000 by omega) (by decide)
      case c4 => omega
      case c5 => simp; omega
      intro v1 W5 hl1 hg1
      have hg1 : Grew wr W5 _ v1 := Grew.under ((Below.refl _ _).alloc (Nat.le_refl _) _) hg1
      obtain ⟨vp, vc, hv1⟩ := ownsRow_form hl1
      subst hv1
      have H5 := hid (HS.out.1.put (a := (a : Int)) hg1 (by unfold intCells at hl1 ⊢; rw [List.map_append, List.length_append]; exact hl1))
      clear hl1 hg1 hcs
      go_wp2_with fail
      refine (trie_read W5 c kk a l hcp.2.2 H0.out.2.2.1 H5.out.cur H5.out.et (fun h => H0.out.2.2.2.2 (by have he := HS.out.2; rw [findF_none HW.out (by rw [Int.toNat_natCast]; exact h)] at he; rw [← he]; simp)) (by omega)).mono ?_
      rintro e W2 ⟨nv, b, rfl, ⟨s2, hc2, hb2⟩, hg2, x, en, kv, rfl, ⟨kp, kn, kc, rfl⟩, hR⟩
      cases b with
      | false =>
        have hr : readM l a = none := by
          cases hr : readM l a with
          | none => rfl
          | some n => rw [hr] at hR; exact absurd hR.1 (by simp)
        have hr6 : RowAt W2 X 25 Exp.zero.cells.toArray := H5.out.res.grown hg2 (fun e => by have := Option.some.inj e; have := H5.out.ord; omega)
        have hba : Below W2.heap.size W2 (W2.alloc (.cells (nodeCells x en (.slice kp kn kc)) 189)) := (Below.refl _ _).alloc (Nat.le_refl _) _
        have hlow : Below w.heap.size w (W2.alloc (.cells (nodeCells x en (.slice kp kn kc)) 189)) := (H5.out.low.grown hg2 H5.out.low.size (fun j e => by have := Option.some.inj e; have := H5.out.ord; omega)).trans (hba.mono (Nat.le_trans H5.out.low.size hg2.size))
        have hr7 : RowAt (W2.alloc (.cells (nodeCells x en (.slice kp kn kc)) 189)) X 25 Exp.zero.cells.toArray := (hba.block _ hr6.lt).trans hr6
        clear hba hr6
        go_upto_region 13 with fail
        obtain ⟨W3, hW3⟩ : ∃ W3, W3 = W2.alloc (.cells (nodeCells x en (.slice kp kn kc)) 189) := ⟨_, rfl⟩
        rw [← hW3] at hlow hr7
        rw [show W2.alloc (.cells #[.string (mkS x.name), .int .i64 x.kind, .bool x.weak, .int .u64 (x.value : Int), .int .u64 (x.resolver : Int), .int .u64 (x.ordinal : Int), .string (mkS x.other), .bool en, .slice kp kn kc] 189) = W3 from hW3.symm]
        clear hW3
        have x0 : W3.cell? ⟨X, 0, none⟩ = some (.string ⟨#[]⟩) := cell_of_row W3 X 0 _ _ _ hr7
        have x1 : W3.cell? ⟨X, 1, none⟩ = some (.int .i64 0) := cell_of_row W3 X 1 _ _ _ hr7
        have x2 : W3.cell? ⟨X, 2, none⟩ = some (.bool false) := cell_of_row W3 X 2 _ _ _ hr7
        have x3 : W3.cell? ⟨X, 3, none⟩ = some (.int .u64 0) := cell_of_row W3 X 3 _ _ _ hr7
        have x4 : W3.cell? ⟨X, 4, none⟩ = some (.int .u64 0) := cell_of_row W3 X 4 _ _ _ hr7
        have x5 : W3.cell? ⟨X, 5, none⟩ = some (.int .u64 0) := cell_of_row W3 X 5 _ _ _ hr7
        have x6 : W3.cell? ⟨X, 6, none⟩ = some (.string ⟨#[]⟩) := cell_of_row W3 X 6 _ _ _ hr7
        have xf : ∀ i, W3.frozen? ⟨X, i, none⟩ = false := fun i => frozen_of_row W3 X i _ _ hr7
        have z0 : W3.setCell ⟨X, 0, none⟩ (.string ⟨#[]⟩) = W3 := setCell_self hr7 0 _ rfl
        have z1 : W3.setCell ⟨X, 1, none⟩ (.int .i64 0) = W3 := setCell_self hr7 1 _ rfl
        have z2 : W3.setCell ⟨X, 2, none⟩ (.bool false) = W3 := setCell_self hr7 2 _ rfl
        have z3 : W3.setCell ⟨X, 3, none⟩ (.int .u64 0) = W3 := setCell_self hr7 3 _ rfl
        have z4 : W3.setCell ⟨X, 4, none⟩ (.int .u64 0) = W3 := setCell_self hr7 4 _ rfl
        have z5 : W3.setCell ⟨X, 5, none⟩ (.int .u64 0) = W3 := setCell_self hr7 5 _ rfl
        have z6 : W3.setCell ⟨X, 6, none⟩ (.string ⟨#[]⟩) = W3 := setCell_self hr7 6 _ rfl
        have He := hid (And.intro hlow hr)
        clear hlow hr hR hr7 hb2 hc2 hg2
        go_wp2_with fail
        refine bodyPost_ret (v := .tuple #[.agg Exp.zero.cells.toArray, .bool false, .int .i64 12]) (by simp [results, Tryz.results105, go_sem, Exp.cells, Exp.zero, mkS, x0, x1, x2, x3, x4, x5, x6]) rfl ?_
        have he := HS.out.2
        rw [findF_none HW.out (by rw [Int.toNat_natCast]; exact He.out.2)] at he
        rw [← he]
        exact ⟨rfl, HX.out ▸ He.out.1⟩
      | true =>
        obtain ⟨n, hr⟩ : ∃ n, readM l a = some n := by
          cases hr : readM l a with
          | none => rw [hr] at hR; cases hR
          | some n => exact ⟨n, rfl⟩
        rw [hr] at hR
        obtain ⟨-, rfl, rfl, hkb⟩ := hR
        have hS2 : FS Bad w W2 X c K l s2.at_ rest (walk ++ [(a : Int)]) _ := H5.out.call (by rw [← cu_good (hb2 rfl)]; exact hc2) hg2
        have hba : Below W2.heap.size W2 (W2.alloc (.cells (nodeCells n.says n.ends (.slice kp kn kc)) 189)) := (Below.refl _ _).alloc (Nat.le_refl _) _
        have hS3 := hS2.below hba
        have hN := hS2.ro.lt
        have hkN : (Value.slice kp kn kc).ownBlock ≠ some W2.heap.size := fun e => Nat.lt_irrefl _ (World.ownsRow.lt hkb _ e).2
        have hkK : (Value.slice kp kn kc).ownBlock ≠ some K := fun e => by have h1 := (World.ownsRow.lt hkb _ e).1; have h2 := H5.out.ro.lt; omega
        have hvN : (Value.slice vp (walk.length + 1) vc).ownBlock ≠ some W2.heap.size := fun e => Nat.lt_irrefl _ (World.ownsRow.lt hS2.wal _ e).2
        have hrow : RowAt (W2.alloc (.cells (nodeCells n.says n.ends (.slice kp kn kc)) 189)) W2.heap.size 189 _ := heap_alloc_new W2 _
        have hkb3 := ownsRow_below hkb hba
        go_upto_region 14 with fail
        obtain ⟨N, hNe⟩ : ∃ N, N = W2.heap.size := ⟨_, rfl⟩
        obtain ⟨W3, hW3⟩ : ∃ W3, W3 = W2.alloc (.cells (nodeCells n.says n.ends (.slice kp kn kc)) 189) := ⟨_, rfl⟩
        rw [← hNe, ← hW3] at hrow
        rw [← hW3] at hS3 hkb3
        rw [← hNe] at hkN hvN hN
        rw [← hNe]
        rw [show W2.alloc (.cells #[.string (mkS n.says.name), .int .i64 n.says.kind, .bool n.says.weak, .int .u64 (n.says.value : Int), .int .u64 (n.says.resolver : Int), .int .u64 (n.says.ordinal : Int), .string (mkS n.says.other), .bool n.ends, .slice kp kn kc] 189) = W3 from hW3.symm]
        clear hW3 hNe hba hS2 hkb hb2 hc2 hg2
        have k0 : W3.cell? ⟨K, 0, none⟩ = some (.string (mkS rest)) := cell_of_row W3 K 0 _ _ _ hS3.ro
        have H6 := hid (And.intro hS3 (And.intro hkb3 (And.intro hkN (And.intro hkK (And.intro hvN (And.intro hrow (And.intro hr hN)))))))
        have hcN : c < N := by have := hS3.ord; omega
        have HcN := hid hcN
        clear hkN hkK hvN hr hcN hS3 hrow hN
        by_cases h0 : rest = []
        · subst h0
          have n0 : W3.cell? ⟨N, 0, none⟩ = some (.string (mkS n.says.name)) := cell_of_row W3 N 0 _ _ _ H6.out.2.2.2.2.2.1
          have nf : W3.frozen? ⟨N, 0, none⟩ = false := frozen_of_row W3 N 0 _ _ H6.out.2.2.2.2.2.1
          go_upto_region 16 with fail
          have h4 := H6.out.1.far (i := 0) HcN.out (by have := H6.out.2.2.2.2.2.2.2; omega) H6.out.2.2.2.2.1 (.string (mkS name))
          have hX4 : RowAt (W3.setCell ⟨N, 0, none⟩ (.string (mkS name))) N 189 (nodeCells { n.says with name := name } n.ends (.slice kp kn kc)) := by
            unfold RowAt; rw [heap_setCell_same _ _ _ _ _ _ H6.out.2.2.2.2.2.1]; rfl
          obtain ⟨W4, hW4⟩ : ∃ W4, W4 = W3.setCell ⟨N, 0, none⟩ (.string (mkS name)) := ⟨_, rfl⟩
          rw [← hW4] at h4 hX4 ⊢
          clear hW4 n0 nf k0
          obtain ⟨y, hy⟩ : ∃ y : Exp, y = { n.says with name := name } := ⟨_, rfl⟩
          obtain ⟨E, hE⟩ : ∃ E, E = n.ends := ⟨_, rfl⟩
          rw [← hy, ← hE] at hX4
          have n0 : W4.cell? ⟨N, 0, none⟩ = some (.string (mkS y.name)) := cell_of_row W4 N 0 _ _ _ hX4
          have n1 : W4.cell? ⟨N, 1, none⟩ = some (.int .i64 y.kind) := cell_of_row W4 N 1 _ _ _ hX4
          have n2 : W4.cell? ⟨N, 2, none⟩ = some (.bool y.weak) := cell_of_row W4 N 2 _ _ _ hX4
          have n3 : W4.cell? ⟨N, 3, none⟩ = some (.int .u64 (y.value : Int)) := cell_of_row W4 N 3 _ _ _ hX4
          have n4 : W4.cell? ⟨N, 4, none⟩ = some (.int .u64 (y.resolver : Int)) := cell_of_row W4 N 4 _ _ _ hX4
          have n5 : W4.cell? ⟨N, 5, none⟩ = some (.int .u64 (y.ordinal : Int)) := cell_of_row W4 N 5 _ _ _ hX4
          have n6 : W4.cell? ⟨N, 6, none⟩ = some (.string (mkS y.other)) := cell_of_row W4 N 6 _ _ _ hX4
          have n7 : W4.cell? ⟨N, 7, none⟩ = some (.bool E) := cell_of_row W4 N 7 _ _ _ hX4
          have n8 : W4.cell? ⟨N, 8, none⟩ = some (.slice kp kn kc) := cell_of_row W4 N 8 _ _ _ hX4
          have hfind : r = if E then (y, true, 0) else (Exp.zero, false, 0) := by
            have he := HS.out.2
            rw [findF_here HW.out (by rw [Int.toNat_natCast]; exact H6.out.2.2.2.2.2.2.1) rfl, ← hy, ← hE] at he
            exact he.symm
          have H7 := hid (And.intro h4 hfind)
          clear h4 hX4 hfind hy hE
          go_wp2_with fail
          refine (node_told W4 y E kp kn kc).mono ?_
          rintro e W5 ⟨rfl, hb5⟩
          have h8 := H7.out.1.below hb5
          obtain ⟨z, hz⟩ : ∃ z, z = if E then y else Exp.zero := ⟨_, rfl⟩
          rw [← hz]
          have hz2 : r = (z, E, 0) := by rw [H7.out.2, hz]; cases E <;> rfl
          have x0 : W5.cell? ⟨X, 0, none⟩ = some (.string ⟨#[]⟩) := cell_of_row W5 X 0 _ _ _ h8.res
          have x1 : W5.cell? ⟨X, 1, none⟩ = some (.int .i64 0) := cell_of_row W5 X 1 _ _ _ h8.res
          have x2 : W5.cell? ⟨X, 2, none⟩ = some (.bool false) := cell_of_row W5 X 2 _ _ _ h8.res
          have x3 : W5.cell? ⟨X, 3, none⟩ = some (.int .u64 0) := cell_of_row W5 X 3 _ _ _ h8.res
          have x4 : W5.cell? ⟨X, 4, none⟩ = some (.int .u64 0) := cell_of_row W5 X 4 _ _ _ h8.res
          have x5 : W5.cell? ⟨X, 5, none⟩ = some (.int .u64 0) := cell_of_row W5 X 5 _ _ _ h8.res
          have x6 : W5.cell? ⟨X, 6, none⟩ = some (.string ⟨#[]⟩) := cell_of_row W5 X 6 _ _ _ h8.res
          have xf : ∀ i, W5.frozen? ⟨X, i, none⟩ = false := fun i => frozen_of_row W5 X i _ _ h8.res
          have H8 := hid (And.intro h8.low hz2)
          clear h8 hz hz2 hb5 n0 n1 n2 n3 n4 n5 n6 n7 n8
          have hzc : z.cells.toArray = #[.string (mkS z.name), .int .i64 z.kind, .bool z.weak, .int .u64 z.value, .int .u64 z.resolver, .int .u64 z.ordinal, .string (mkS z.other)] := rfl
          rw [hzc]
          clear hzc
          go_wp2_with fail
          refine bodyPost_ret (v := .tuple #[.agg z.cells.toArray, .bool E, .int .i64 0]) (by simp [results, Tryz.results105, go_sem, Exp.cells, x0, x1, x2, x3, x4, x5, x6]) rfl ?_
          rw [H8.out.2]
          refine ⟨rfl, ?_⟩
          have hXl : w.heap.size ≤ X := by have := HX.out; omega
          exact ((((((H8.out.1.setCell (p := ⟨X, 0, none⟩) hXl _).setCell (p := ⟨X, 1, none⟩) hXl _).setCell (p := ⟨X, 2, none⟩) hXl _).setCell (p := ⟨X, 3, none⟩) hXl _).setCell (p := ⟨X, 4, none⟩) hXl _).setCell (p := ⟨X, 5, none⟩) hXl _).setCell (p := ⟨X, 6, none⟩) hXl _
        · have hr0 : rest.isEmpty = false := by rw [List.isEmpty_eq_false_iff]; exact h0
          have Hr0 := hid h0
          clear h0
          have n8 : W3.cell? ⟨N, 8, none⟩ = some (.slice kp kn kc) := cell_of_row W3 N 8 _ _ _ H6.out.2.2.2.2.2.1
          have hmf : ∀ (fn : Fn) (first cap : Array Value) (w : World), (Instr.makeFunc fn first cap).run Tryz.prog w = .ok (.func fn first cap) w := fun _ _ _ _ => rfl
          go_wp2_with fail
          refine (index_kids W3 _ K _ n.kids rest H6.out.2.1 H6.out.1.ro.lt (by exact k0)).mono ?_
          rintro e W4 ⟨rfl, hb4⟩
          cases hkx : n.kids.find? (fun k => k.edge.isPrefixOf rest) with
          | none =>
            have hix := kidIx_none (find_not hkx)
            rw [hix]
            have h4 := H6.out.1.below hb4
            have x0 : W4.cell? ⟨X, 0, none⟩ = some (.string ⟨#[]⟩) := cell_of_row W4 X 0 _ _ _ h4.res
            have x1 : W4.cell? ⟨X, 1, none⟩ = some (.int .i64 0) := cell_of_row W4 X 1 _ _ _ h4.res
            have x2 : W4.cell? ⟨X, 2, none⟩ = some (.bool false) := cell_of_row W4 X 2 _ _ _ h4.res
            have x3 : W4.cell? ⟨X, 3, none⟩ = some (.int .u64 0) := cell_of_row W4 X 3 _ _ _ h4.res
            have x4 : W4.cell? ⟨X, 4, none⟩ = some (.int .u64 0) := cell_of_row W4 X 4 _ _ _ h4.res
            have x5 : W4.cell? ⟨X, 5, none⟩ = some (.int .u64 0) := cell_of_row W4 X 5 _ _ _ h4.res
            have x6 : W4.cell? ⟨X, 6, none⟩ = some (.string ⟨#[]⟩) := cell_of_row W4 X 6 _ _ _ h4.res
            have xf : ∀ i, W4.frozen? ⟨X, i, none⟩ = false := fun i => frozen_of_row W4 X i _ _ h4.res
            have z0 : W4.setCell ⟨X, 0, none⟩ (.string ⟨#[]⟩) = W4 := setCell_self h4.res 0 _ rfl
            have z1 : W4.setCell ⟨X, 1, none⟩ (.int .i64 0) = W4 := setCell_self h4.res 1 _ rfl
            have z2 : W4.setCell ⟨X, 2, none⟩ (.bool false) = W4 := setCell_self h4.res 2 _ rfl
            have z3 : W4.setCell ⟨X, 3, none⟩ (.int .u64 0) = W4 := setCell_self h4.res 3 _ rfl
            have z4 : W4.setCell ⟨X, 4, none⟩ (.int .u64 0) = W4 := setCell_self h4.res 4 _ rfl
            have z5 : W4.setCell ⟨X, 5, none⟩ (.int .u64 0) = W4 := setCell_self h4.res 5 _ rfl
            have z6 : W4.setCell ⟨X, 6, none⟩ (.string ⟨#[]⟩) = W4 := setCell_self h4.res 6 _ rfl
            have He := hid (And.intro h4.low hkx)
            clear h4 hkx hix hb4 k0 n8
            go_wp2_with fail
            refine bodyPost_ret (v := .tuple #[.agg Exp.zero.cells.toArray, .bool false, .int .i64 0]) (by simp [results, Tryz.results105, go_sem, Exp.cells, Exp.zero, mkS, x0, x1, x2, x3, x4, x5, x6]) rfl ?_
            have he := HS.out.2
            rw [findF_out HW.out (by rw [Int.toNat_natCast]; exact H6.out.2.2.2.2.2.2.1) Hr0.out He.out.2] at he
            rw [← he]
            exact ⟨rfl, HX.out ▸ He.out.1⟩
          | some kd =>
            obtain ⟨i, hi1, hi2, hi3⟩ := find_at hkx
            have hix := kidIx_some hi1 hi2 hi3
            rw [hix]
            have h4 := H6.out.1.below hb4
            have hkb4 := ownsRow_below H6.out.2.1 hb4
            have hlt := (List.getElem?_eq_some_iff.1 hi1).1
            have hN4 : RowAt W4 N _ _ := (hb4.block N H6.out.2.2.2.2.2.1.lt).trans H6.out.2.2.2.2.2.1
            obtain ⟨g, gc, hg, hgl, e0, e1⟩ := kb_at hkb4 hi1
            obtain ⟨hg1, hg2, hg3⟩ := Value.slice.inj hg
            subst hg1
            subst hg2
            subst hg3
            have n8' : W4.cell? ⟨N, 8, none⟩ = some _ := cell_of_row W4 N 8 _ _ _ hN4
            have k0' : W4.cell? ⟨K, 0, none⟩ = some (.string (mkS rest)) := cell_of_row W4 K 0 _ _ _ h4.ro
            have kf' : W4.frozen? ⟨K, 0, none⟩ = false := frozen_of_row W4 K 0 _ _ h4.ro
            have hkne := (readM_kids H6.out.2.2.2.2.2.2.1).1 kd (List.mem_of_getElem? hi1)
            have hkto := readM_to H6.out.2.2.2.2.2.2.1 hpos kd (List.mem_of_getElem? hi1)
            have hpre : kd.edge <+: rest := List.isPrefixOf_iff_prefix.1 hi2
            have hple := hpre.length_le
            have hd6 : decide ((i : Int) < 0) = false := by simp
            have H9 := hid (And.intro h4 (And.intro hkne (And.intro hkto (And.intro hpre hkx))))
            clear h4 hkne hkto hpre hkx hi1 hi2 hi3 hix hkb4 hN4 hb4 hg k0 n8
            go_wp2_with fail
            go_region
            rw [mkS_drop]
            have h10 := (H9.out.1.below ((Below.refl _ _).drew)).on (rest.drop kd.edge.length)
            have k0 : (W4.setCell ⟨K, 0, none⟩ (.string (mkS (rest.drop kd.edge.length)))).drew.cell? ⟨K, 0, none⟩ = some (.string (mkS (rest.drop kd.edge.length))) := World.cell?_setCell_same _ _ _ k0'
            have H10 := hid h10
            clear h10 k0' kf' n8' e0 e1
            go_wp2_with fail
            go_roundg (rest.drop kd.edge.length).length
            case measure =>
              have h1 := List.length_pos_iff.2 H9.out.2.1.1
              rw [List.length_drop, ← Hk.out]; omega
            case rel =>
              refine ⟨kd.to, rest.drop kd.edge.length, walk ++ [(a : Int)], _, _, rfl, rfl, rfl, ?_, H9.out.2.2.1, H10.out, ?_⟩
              · have h1 := List.length_pos_iff.2 H9.out.2.1.1
                rw [List.length_append, List.length_drop]; simp; omega
              · have h1 := List.length_pos_iff.2 H9.out.2.1.1
                have he := HS.out.2
                rw [findF_on HW.out (by rw [Int.toNat_natCast]; exact H6.out.2.2.2.2.2.2.1) Hr0.out H9.out.2.2.2.2] at he
                rw [← he]
                refine findF_fuel ?_ ?_
                · omega
                · rw [List.length_drop]; omega
end Go.Proofs.YthhjdkcnkdffcaaGreat.Eb
