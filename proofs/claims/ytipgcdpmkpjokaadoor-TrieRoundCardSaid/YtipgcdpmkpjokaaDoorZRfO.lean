/- The reference's Find: the walk. -/
import Derived.Test.YtipgcdpmkpjokaaDoorZRfI
import Derived.Test.YtipgcdpmkpjokaaDoorZLebM
import Derived.Deep.DeepCutAuto
import Derived.Deep.CutBlock
namespace Go.Proofs.YtipgcdpmkpjokaaDoor
set_option linter.unusedSimpArgs false
set_option linter.unusedVariables false
open Go.RowKit

/-- What stands while the reference looks for a name. -/
structure FR (w W : World) (X : Nat) (p : Option Addr) (cap : Nat) (l : List UInt8) (walk : List Int) (vw : Value) : Prop where
  res : RowAt W X 25 Exp.zero.cells.toArray
  bs : BS W (.slice p l.length cap) l
  far : ∀ k, inBlk (.slice p l.length cap) k → k < X
  wal : W.ownsRow (X + 1) 3 1 vw walk.length (intCells walk)
  low : Below w.heap.size w W
  ord : w.heap.size ≤ X

section
variable {w W W' : World} {X : Nat} {p : Option Addr} {cap : Nat} {l : List UInt8} {walk : List Int} {vw vw' : Value}

theorem FR.below (h : FR w W X p cap l walk vw) (hb : Below W.heap.size W W') : FR w W' X p cap l walk vw :=
  ⟨(hb.block X h.res.lt).trans h.res, h.bs.below hb, h.far, ownsRow_below h.wal hb, h.low.trans (hb.mono h.low.size), h.ord⟩

theorem FR.put {a : Int} (h : FR w W X p cap l walk vw) (hg : Grew W W' vw vw') (ho : W'.ownsRow (X + 1) 3 1 vw' (walk ++ [a]).length (intCells (walk ++ [a]))) : FR w W' X p cap l (walk ++ [a]) vw' := by
  have hX := h.res.lt
  have hO := h.ord
  have kb : ∀ j, j ≤ X → W'.heap[j]? = W.heap[j]? := fun j hj => hg.block (by omega) (fun e => by have := (World.ownsRow.lt h.wal j e).1; omega)
  exact ⟨(kb X (Nat.le_refl _)).trans h.res, h.bs.of_block (fun j hj _ => kb j (Nat.le_of_lt (h.far j hj))), h.far, ho, h.low.trans ((hg.below (B := X + 1) (by omega) (fun j e => (World.ownsRow.lt h.wal j e).1)).mono (by omega)), hO⟩

theorem FR.zeros (h : FR w W X p cap l walk vw) : (W.cell? ⟨X, 0, none⟩ = some (.string ⟨#[]⟩) ∧ W.cell? ⟨X, 1, none⟩ = some (.int .i64 0) ∧ W.cell? ⟨X, 2, none⟩ = some (.bool false) ∧ W.cell? ⟨X, 3, none⟩ = some (.int .u64 0) ∧ W.cell? ⟨X, 4, none⟩ = some (.int .u64 0) ∧ W.cell? ⟨X, 5, none⟩ = some (.int .u64 0) ∧ W.cell? ⟨X, 6, none⟩ = some (.string ⟨#[]⟩)) ∧ (∀ i, W.frozen? ⟨X, i, none⟩ = false) ∧
    (W.setCell ⟨X, 0, none⟩ (.string ⟨#[]⟩) = W ∧ W.setCell ⟨X, 1, none⟩ (.int .i64 0) = W ∧ W.setCell ⟨X, 2, none⟩ (.bool false) = W ∧ W.setCell ⟨X, 3, none⟩ (.int .u64 0) = W ∧ W.setCell ⟨X, 4, none⟩ (.int .u64 0) = W ∧ W.setCell ⟨X, 5, none⟩ (.int .u64 0) = W ∧ W.setCell ⟨X, 6, none⟩ (.string ⟨#[]⟩) = W) :=
  ⟨⟨cell_of_row W X 0 _ _ _ h.res, cell_of_row W X 1 _ _ _ h.res, cell_of_row W X 2 _ _ _ h.res, cell_of_row W X 3 _ _ _ h.res, cell_of_row W X 4 _ _ _ h.res, cell_of_row W X 5 _ _ _ h.res, cell_of_row W X 6 _ _ _ h.res⟩, fun i => frozen_of_row W X i _ _ h.res,
    setCell_self h.res 0 _ rfl, setCell_self h.res 1 _ rfl, setCell_self h.res 2 _ rfl, setCell_self h.res 3 _ rfl, setCell_self h.res 4 _ rfl, setCell_self h.res 5 _ rfl, setCell_self h.res 6 _ rfl⟩
end

/-- What a call of Find brings about. -/
def FindEndR (w : World) (r : Exp × Bool × Nat) (e : Ending) (w' : World) : Prop :=
  e = .returned (.tuple #[.agg r.1.cells.toArray, .bool r.2.1, .int .i64 (r.2.2 : Int)]) ∧ Below w.heap.size w w'

def FRelR (w : World) (X : Nat) (p : Option Addr) (cap : Nat) (l name : List UInt8) (r : Exp × Bool × Nat) (k : Nat) (v7 v8 v9 : Value) (wr : World) : Prop :=
  ∃ at_ rest walk, v8 = .int .i64 at_ ∧ v9 = .string (mkS rest) ∧ rest.length = k ∧ walk.length + rest.length ≤ 255 ∧ at_ < (l.length : Int) ∧ FR w wr X p cap l walk v7 ∧ findF l name (rest.length + 1) at_ rest walk = r

/-- Which child goes on. -/
def NextR (F : Option KidM) (rest : List UInt8) (v9 v12 : Value) : Prop :=
  match F with
  | none => v9 = .string (mkS rest) ∧ v12 = .int .i64 (-2)
  | some k => v9 = .string (mkS (rest.drop k.edge.length)) ∧ v12 = .int .i64 k.to

theorem kidsR_to2 {all : Nat} : ∀ (n : Nat) (b : List UInt8) (acc ks : List KidM), kidsR all n b acc = some ks → (∀ x ∈ acc, -1 ≤ x.to) → ∀ x ∈ ks, -1 ≤ x.to
  | 0, b, acc, ks, h, ha => by cases h; exact ha
  | n + 1, b, acc, ks, h, ha => by
    rw [kidsR] at h
    cases ht : textR b with
    | none => rw [ht] at h; cases h
    | some p =>
      obtain ⟨e, k⟩ := p
      rw [ht] at h
      dsimp only at h
      cases hu : ulebM (b.drop k) with
      | none => rw [hu] at h; cases h
      | some q =>
        obtain ⟨tv, k2⟩ := q
        rw [hu] at h
        dsimp only at h
        split at h
        · cases h
        · split at h
          · cases h
          · refine kidsR_to2 n _ _ _ h (fun x hx => ?_)
            rcases List.mem_append.1 hx with h1 | h1
            · exact ha x h1
            · simp at h1; subst h1
              show -1 ≤ placeM tv all
              unfold placeM; split <;> omega

theorem readM_to2 {l : List UInt8} {at_ : Nat} {n : NodeM} (h : readM l at_ = some n) : ∀ x ∈ n.kids, -1 ≤ x.to := by
  unfold readM at h
  cases hu : ulebM (l.drop at_) with
  | none => rw [hu] at h; cases h
  | some p =>
    obtain ⟨size, k⟩ := p
    rw [hu] at h
    dsimp only at h
    split at h
    · cases h
    · split at h
      · cases h
      · split at h
        · cases h
        · split at h
          · cases h
          · rename_i hk
            cases h
            exact kidsR_to2 _ _ _ _ hk (by simp)

theorem readM_noends {l : List UInt8} {at_ : Nat} {n : NodeM} (h : readM l at_ = some n) (he : n.ends = false) : n.says = Exp.zero := by
  unfold readM at h
  cases hu : ulebM (l.drop at_) with
  | none => rw [hu] at h; cases h
  | some q =>
    obtain ⟨size, k⟩ := q
    rw [hu] at h
    dsimp only at h
    split at h
    · cases h
    · split at h
      · cases h
      · rename_i x hx
        split at h
        · cases h
        · split at h
          · cases h
          · cases h
            have hz : size = 0 := by
              have : decide (0 < size) = false := he
              simpa using this
            rw [if_pos hz] at hx
            cases hx; rfl

theorem mkS_take (r : List UInt8) (k : Nat) (h : k ≤ r.length) : (mkS r).extract 0 k = mkS (r.take k) := by
  apply ByteArray.ext
  rw [ByteArray.data_extract]
  simp [mkS, List.extract_eq_take_drop]

set_option maxHeartbeats 8000000 in
set_option maxRecDepth 100000 in
theorem ref_find (w : World) (p : Option Addr) (n cap : Nat) (l name : List UInt8) (h : BS w (.slice p n cap) l) :
    Calls Tryd.prog 14 #[.slice p n cap, .string (mkS name)] w (FindEndR w (findT l name)) := by
  obtain rfl := h.len
  have hcp := h.cap
  by_cases h255 : 255 < name.length
  · have hd1 : decide ((255 : Int) < (name.length : Int)) = true := by simp; omega
    have hd2 : decide (255 < name.length) = true := by simp; omega
    have Hr := hid (show findT l name = (Exp.zero, false, 10) from by unfold findT; rw [if_pos h255])
    clear h255 h
    go_enter Tryd.func14, Tryd.ntmps14
    go_wp2_with fail
    refine bodyPost_ret (v := .tuple #[.agg Exp.zero.cells.toArray, .bool false, .int .i64 10]) (by simp [results, Tryd.results14, go_sem, Exp.cells, Exp.zero, mkS]) rfl ?_
    rw [Hr.out]
    refine ⟨rfl, ?_⟩
    repeat first | (with_reducible exact Below.refl _ _) | (with_reducible refine Below.setCell ?_ (Nat.le_refl _) _) | (with_reducible refine Below.alloc ?_ (Nat.le_refl _) _)
  have hd1 : decide ((255 : Int) < (name.length : Int)) = false := by simp; omega
  have hd2 : decide (255 < name.length) = false := by simp; omega
  by_cases hne : l = []
  · subst hne
    have Hr := hid (show findT [] name = (Exp.zero, false, 0) from by unfold findT; rw [if_neg h255, if_pos rfl])
    clear h255 h
    go_enter Tryd.func14, Tryd.ntmps14
    go_wp2_with fail
    refine bodyPost_ret (v := .tuple #[.agg Exp.zero.cells.toArray, .bool false, .int .i64 0]) (by simp [results, Tryd.results14, go_sem, Exp.cells, Exp.zero, mkS]) rfl ?_
    rw [Hr.out]
    refine ⟨rfl, ?_⟩
    repeat first | (with_reducible exact Below.refl _ _) | (with_reducible refine Below.setCell ?_ (Nat.le_refl _) _) | (with_reducible refine Below.alloc ?_ (Nat.le_refl _) _)
  have hpos := List.length_pos_iff.2 hne
  have hd3 : ((l.length : Int) == 0) = false := by rw [beq_eq_false_iff_ne]; omega
  have hd4 : (l.length == 0) = false := by rw [beq_eq_false_iff_ne]; omega
  have Hr := hid (show findT l name = findF l name (name.length + 1) 0 name [] from by unfold findT; rw [if_neg h255, if_neg hne])
  obtain ⟨r, hr⟩ : ∃ r, r = findT l name := ⟨_, rfl⟩
  rw [← hr] at Hr ⊢
  have hba : Below w.heap.size w (w.alloc (.cells Exp.zero.cells.toArray 25)) := (Below.refl _ _).alloc (Nat.le_refl _) _
  have hF : FR w (w.alloc (.cells Exp.zero.cells.toArray 25)) w.heap.size p cap l [] (.slice none 0 0) :=
    ⟨heap_alloc_new w _, h.below hba, fun k hk => inBlk_lt h hk, World.ownsRow_nil _ _ _ _, hba, Nat.le_refl _⟩
  have H1 := hid (And.intro hF (And.intro hne h255))
  clear h hne h255 hr hba hF
  go_enter Tryd.func14, Tryd.ntmps14
  go_wp2_with fail
  obtain ⟨X, hX⟩ : ∃ X, X = w.heap.size := ⟨_, rfl⟩
  rw [← hX] at H1
  try rw [← hX]
  have HX := hid hX
  clear hX
  go_loopg [7, 8, 9] name.length (fun k v7 v8 v9 wr => FRelR w X p cap l name r k v7 v8 v9 wr)
  case atStart => exact ⟨0, name, [], rfl, rfl, rfl, by simp; have := H1.out.2.2; omega, by omega, H1.out.1, Hr.out.symm⟩
  case round =>
    obtain ⟨at_, rest, walk, rfl, rfl, hk, hwl, hat, hS, hfi⟩ := hrel
    obtain ⟨⟨x0, x1, x2, x3, x4, x5, x6⟩, xf, z0, z1, z2, z3, z4, z5, z6⟩ := hS.zeros
    obtain ⟨wp, wcap, hvw⟩ := ownsRow_form hS.wal
    subst hvw
    have HS := hid (And.intro hS hfi)
    have Hk := hid hk
    clear hS hfi hk
    by_cases hneg : at_ < 0
    · have hd5 : decide (at_ < 0) = true := by simp; omega
      have HN := hid hneg
      clear hneg
      go_wp2_with fail
      refine bodyPost_ret (v := .tuple #[.agg Exp.zero.cells.toArray, .bool false, .int .i64 12]) (by simp [results, Tryd.results14, go_sem, Exp.cells, Exp.zero, mkS, x0, x1, x2, x3, x4, x5, x6]) rfl ?_
      have he := HS.out.2
      rw [findF_lost (.inl HN.out)] at he
      rw [← he]
      exact ⟨rfl, HS.out.1.low⟩
    obtain ⟨a, rfl⟩ : ∃ a : Nat, at_ = a := ⟨at_.toNat, by omega⟩
    have hd5 : decide ((a : Int) < 0) = false := by simp
    have HN := hid hneg
    clear hneg
    have Hhas := hid (ref_has wr (X + 1) 3 _ walk a HS.out.1.wal (by omega))
    obtain ⟨hb, hhb⟩ : ∃ hb, hb = walk.contains (a : Int) := ⟨_, rfl⟩
    rw [← hhb] at Hhas
    have Hhb := hid hhb
    clear hhb
    go_wp2_with fail
    refine Hhas.out.mono ?_
    rintro e w' ⟨rfl, rfl⟩
    cases hb with
    | true =>
      go_wp2_with fail
      refine bodyPost_ret (v := .tuple #[.agg Exp.zero.cells.toArray, .bool false, .int .i64 12]) (by simp [results, Tryd.results14, go_sem, Exp.cells, Exp.zero, mkS, x0, x1, x2, x3, x4, x5, x6]) rfl ?_
      have he := HS.out.2
      rw [findF_lost (.inr Hhb.out.symm)] at he
      rw [← he]
      exact ⟨rfl, HS.out.1.low⟩
    | false =>
      have HW := hid (show ¬ ((a : Int) < 0 ∨ walk.contains (a : Int) = true) from fun h => h.elim (fun h => by have := HN.out; omega) (fun h => by rw [← Hhb.out] at h; cases h))
      clear x0 x1 x2 x3 x4 x5 x6 xf z0 z1 z2 z3 z4 z5 z6
      go_wp2_with fail
      refine (ref_read wr p l.length cap l a HS.out.1.bs (by omega)).mono ?_
      rintro e w3 ⟨nv, b, rfl, hb3, x, en, kv, rfl, hkvf, hrd⟩
      obtain ⟨kp, kn, kc, rfl⟩ := hkvf
      have h3 := HS.out.1.below hb3
      have hwl3 : X < wr.heap.size := HS.out.1.res.lt
      cases hrm : readM l a with
      | none =>
        rw [hrm] at hrd
        have hb : b = false := hrd
        subst hb
        have hba : Below w3.heap.size w3 (w3.alloc (.cells (nodeR x en (.slice kp kn kc)) 68)) := (Below.refl _ _).alloc (Nat.le_refl _) _
        have h4 := h3.below hba
        obtain ⟨N, hN⟩ : ∃ N, N = w3.heap.size := ⟨_, rfl⟩
        obtain ⟨W4, hW4⟩ : ∃ W4, W4 = w3.alloc (.cells (nodeR x en (.slice kp kn kc)) 68) := ⟨_, rfl⟩
        have hW4' : w3.alloc (.cells #[.bool en, .string (mkS x.name), .int .i64 x.kind, .bool x.weak, .int .u64 (x.value : Int), .int .u64 (x.resolver : Int), .int .u64 (x.ordinal : Int), .string (mkS x.other), .slice kp kn kc] 68) = W4 := hW4.symm
        rw [← hW4] at h4
        have H4 := hid (And.intro h4 (And.intro hrm (And.intro hN hW4')))
        obtain ⟨⟨x0, x1, x2, x3, x4, x5, x6⟩, xf, z0, z1, z2, z3, z4, z5, z6⟩ := h4.zeros
        clear hb3 hrd h3 hrm h4 hba hN hW4 hW4'
        rw [show nodeR x en (.slice kp kn kc) = #[.bool en, .string (mkS x.name), .int .i64 x.kind, .bool x.weak, .int .u64 (x.value : Int), .int .u64 (x.resolver : Int), .int .u64 (x.ordinal : Int), .string (mkS x.other), .slice kp kn kc] from rfl]
        go_upto_if 39 with fail
        rw [H4.out.2.2.2]
        go_wp2_with fail
        refine bodyPost_ret (v := .tuple #[.agg Exp.zero.cells.toArray, .bool false, .int .i64 12]) (by simp [results, Tryd.results14, go_sem, Exp.cells, Exp.zero, mkS, x0, x1, x2, x3, x4, x5, x6]) rfl ?_
        have he := HS.out.2
        rw [findF_none HW.out (by rw [Int.toNat_natCast]; exact H4.out.2.1)] at he
        rw [← he]
        exact ⟨rfl, H4.out.1.low⟩
      | some nd =>
        rw [hrm] at hrd
        obtain ⟨rfl, hx, hen, hkv⟩ := hrd
        obtain ⟨ka, kca, hka⟩ := ownsRow_form hkv
        obtain ⟨hk1, hk2, hk3'⟩ := Value.slice.inj hka
        subst hk2
        clear hka hk1 hk3'
        have hba : Below w3.heap.size w3 (w3.alloc (.cells (nodeR x en (.slice kp nd.kids.length kc)) 68)) := (Below.refl _ _).alloc (Nat.le_refl _) _
        have h4 := h3.below hba
        have hX4 : RowAt (w3.alloc (.cells (nodeR x en (.slice kp nd.kids.length kc)) 68)) w3.heap.size 68 (nodeR x en (.slice kp nd.kids.length kc)) := heap_alloc_new w3 _
        have hkv4 : (w3.alloc (.cells (nodeR x en (.slice kp nd.kids.length kc)) 68)).ownsRow (X + 1) 72 2 (.slice kp nd.kids.length kc) nd.kids.length (kidCells nd.kids) := ownsRow_below (ownsRow_base hkv (by omega)) hba
        have hkap : Apart (.slice kp nd.kids.length kc) (.slice wp walk.length wcap) := fun k hk e => by
          have h1 := (World.ownsRow.lt hkv k hk).1
          have h2 := (World.ownsRow.lt HS.out.1.wal k e).2
          omega
        have hwN : (Value.slice wp walk.length wcap).ownBlock ≠ some w3.heap.size := fun e => by have := (World.ownsRow.lt h3.wal _ e).2; omega
        have hNX : X < w3.heap.size := h3.res.lt
        obtain ⟨N, hN⟩ : ∃ N, N = w3.heap.size := ⟨_, rfl⟩
        obtain ⟨W4, hW4⟩ : ∃ W4, W4 = w3.alloc (.cells (nodeR x en (.slice kp nd.kids.length kc)) 68) := ⟨_, rfl⟩
        have hW4' : w3.alloc (.cells #[.bool en, .string (mkS x.name), .int .i64 x.kind, .bool x.weak, .int .u64 (x.value : Int), .int .u64 (x.resolver : Int), .int .u64 (x.ordinal : Int), .string (mkS x.other), .slice kp nd.kids.length kc] 68) = W4 := hW4.symm
        rw [← hW4] at h4 hX4 hkv4
        rw [← hN] at hX4 hwN hNX
        have H4 := hid (And.intro h4 (And.intro hX4 (And.intro hkv4 (And.intro hkap (And.intro hwN (And.intro hN hW4'))))))
        have Hrm := hid (And.intro hrm (And.intro hx hen))
        clear hb3 h3 hrm h4 hba hN hW4 hW4' hX4 hkv4 hkap hwN hx hen hkv
        rw [show nodeR x en (.slice kp nd.kids.length kc) = #[.bool en, .string (mkS x.name), .int .i64 x.kind, .bool x.weak, .int .u64 (x.value : Int), .int .u64 (x.resolver : Int), .int .u64 (x.ordinal : Int), .string (mkS x.other), .slice kp nd.kids.length kc] from rfl]
        go_upto_if 39 with fail
        rw [H4.out.2.2.2.2.2.2, ← H4.out.2.2.2.2.2.1]
        obtain ⟨i0, hi, hz0, hz1, hz2⟩ := info_parts Tryd.infoInt
        have H8 := hid (And.intro hi (And.intro hz0 (And.intro hz1 hz2)))
        have hX4l : X < W4.heap.size := H4.out.1.res.lt
        clear hi hz0 hz1 hz2
        go_wp2_with (at_builtin; refine wpList_append_grew _ rfl _ _ _ _ rfl (X + 1) 3 i0 _ 1 8 Tryd.underlying42 H8.out.1 H8.out.2.1 H8.out.2.2.1 H8.out.2.2.2 rfl _ walk.length (intCells walk) rfl (ownsRow_below H4.out.1.wal ((Below.refl _ _).alloc (Nat.le_refl _) _)) _ 1 [.int .i64 (a : Int)] rfl (Src.laid _ Tryd.underlying42 [.int .i64 (a : Int)] 1 rfl (by simp [Value.oneCell']) (0, 0) (by simp)) ?c3 ?c4 ?c5 ?_)
        case c3 => exact Nat.le_trans (show walk.length + 1 ≤ 5000 by omega) (by decide)
        case c4 => omega
        case c5 => simp; omega
        intro v1 W5 hl1 hg1
        have hg1 : Grew W4 W5 _ v1 := Grew.under ((Below.refl _ _).alloc (Nat.le_refl _) _) hg1
        obtain ⟨vp, vc, hv1⟩ := ownsRow_form hl1
        subst hv1
        have h5 := H4.out.1.put (a := (a : Int)) hg1 (by unfold intCells at hl1 ⊢; rw [List.map_append, List.length_append]; exact hl1)
        have hX5 : RowAt W5 N 68 (nodeR x en (.slice kp nd.kids.length kc)) := (hg1.block H4.out.2.1.lt H4.out.2.2.2.2.1).trans H4.out.2.1
        have hkv5 := hg1.own H4.out.2.2.1 H4.out.2.2.2.1
        have q0 : W5.cell? ⟨N, 0, none⟩ = some (.bool en) := cell_of_row W5 N 0 _ _ _ hX5
        have q8 : W5.cell? ⟨N, 8, none⟩ = some (.slice kp nd.kids.length kc) := cell_of_row W5 N 8 _ _ _ hX5
        have H5 := hid (And.intro h5 (And.intro hX5 hkv5))
        clear hl1 hg1 h5 hX5 hkv5
        by_cases h0 : rest = []
        · subst h0
          have he := HS.out.2
          rw [findF_here HW.out (by rw [Int.toNat_natCast]; exact Hrm.out.1) rfl] at he
          have He := hid he
          clear he q8
          go_upto_if 48 with fail
          go_cut [] (fun wx => ∃ y, RowAt wx N 68 (nodeR y en (.slice kp nd.kids.length kc)) ∧ RowAt wx X 25 Exp.zero.cells.toArray ∧ Below w.heap.size w wx ∧ (y, en, 0) = r)
          case first =>
            cases en with
            | false =>
              have hr2 : (x, false, 0) = r := by
                rw [← He.out, ← Hrm.out.2.2, if_neg (by simp), Hrm.out.2.1, readM_noends Hrm.out.1 Hrm.out.2.2.symm]
              have Hr2 := hid hr2
              clear hr2
              go_wp2_with fail
              go_meet
              exact ⟨x, H5.out.2.1, H5.out.1.res, H5.out.1.low, Hr2.out⟩
            | true =>
              have hr2 : ({ x with name := name }, true, 0) = r := by
                rw [← He.out, ← Hrm.out.2.2, if_pos rfl, Hrm.out.2.1]
              have Hr2 := hid hr2
              have q1 : W5.cell? ⟨N, 1, none⟩ = some (.string (mkS x.name)) := cell_of_row W5 N 1 _ _ _ H5.out.2.1
              have qf : W5.frozen? ⟨N, 1, none⟩ = false := frozen_of_row W5 N 1 _ _ H5.out.2.1
              clear hr2
              go_wp2_with fail
              go_meet
              refine ⟨{ x with name := name }, ?_, H5.out.1.res.other (by omega) _, H5.out.1.low.setCell (by show w.heap.size ≤ N; have := H5.out.1.ord; omega) _, Hr2.out⟩
              unfold RowAt; rw [heap_setCell_same _ _ _ _ _ _ H5.out.2.1]; rfl
          case rest =>
            obtain ⟨y, hY, hres, hlow, hr2⟩ := hcut
            go_upto_region 16 with fail
            clear q0
            have q0 : wc.cell? ⟨N, 0, none⟩ = some (.bool en) := cell_of_row wc N 0 _ _ _ hY
            have q1 : wc.cell? ⟨N, 1, none⟩ = some (.string (mkS y.name)) := cell_of_row wc N 1 _ _ _ hY
            have q2 : wc.cell? ⟨N, 2, none⟩ = some (.int .i64 y.kind) := cell_of_row wc N 2 _ _ _ hY
            have q3 : wc.cell? ⟨N, 3, none⟩ = some (.bool y.weak) := cell_of_row wc N 3 _ _ _ hY
            have q4 : wc.cell? ⟨N, 4, none⟩ = some (.int .u64 (y.value : Int)) := cell_of_row wc N 4 _ _ _ hY
            have q5 : wc.cell? ⟨N, 5, none⟩ = some (.int .u64 (y.resolver : Int)) := cell_of_row wc N 5 _ _ _ hY
            have q6 : wc.cell? ⟨N, 6, none⟩ = some (.int .u64 (y.ordinal : Int)) := cell_of_row wc N 6 _ _ _ hY
            have q7 : wc.cell? ⟨N, 7, none⟩ = some (.string (mkS y.other)) := cell_of_row wc N 7 _ _ _ hY
            obtain ⟨x0, x1, x2, x3, x4, x5, x6, xf⟩ := zeroE_cells hres
            have H6 := hid (And.intro (putE_row (y := Exp.zero) y hres) (And.intro (putE_low y hlow (by have := H5.out.1.ord; omega)) hr2))
            have hNX' : ¬ N = X := by omega
            clear hY hres hlow hr2
            first | go_region | fail "region"
            all_goals
              rw [show (((((((wc.setCell ⟨X, 0, none⟩ (.string (mkS y.name))).setCell ⟨X, 1, none⟩ (.int .i64 y.kind)).setCell ⟨X, 2, none⟩ (.bool y.weak)).setCell ⟨X, 3, none⟩ (.int .u64 (y.value : Int))).setCell ⟨X, 4, none⟩ (.int .u64 (y.resolver : Int))).setCell ⟨X, 5, none⟩ (.int .u64 (y.ordinal : Int))).setCell ⟨X, 6, none⟩ (.string (mkS y.other))) = putE wc X y from rfl]
              obtain ⟨W6, hW6⟩ : ∃ W6, W6 = putE wc X y := ⟨_, rfl⟩
              rw [← hW6] at H6 ⊢
              clear hW6 x0 x1 x2 x3 x4 x5 x6 xf q0 q1 q2 q3 q4 q5 q6 q7
              have y0 : W6.cell? ⟨X, 0, none⟩ = some (.string (mkS y.name)) := cell_of_row W6 X 0 _ _ _ H6.out.1
              have y1 : W6.cell? ⟨X, 1, none⟩ = some (.int .i64 y.kind) := cell_of_row W6 X 1 _ _ _ H6.out.1
              have y2 : W6.cell? ⟨X, 2, none⟩ = some (.bool y.weak) := cell_of_row W6 X 2 _ _ _ H6.out.1
              have y3 : W6.cell? ⟨X, 3, none⟩ = some (.int .u64 (y.value : Int)) := cell_of_row W6 X 3 _ _ _ H6.out.1
              have y4 : W6.cell? ⟨X, 4, none⟩ = some (.int .u64 (y.resolver : Int)) := cell_of_row W6 X 4 _ _ _ H6.out.1
              have y5 : W6.cell? ⟨X, 5, none⟩ = some (.int .u64 (y.ordinal : Int)) := cell_of_row W6 X 5 _ _ _ H6.out.1
              have y6 : W6.cell? ⟨X, 6, none⟩ = some (.string (mkS y.other)) := cell_of_row W6 X 6 _ _ _ H6.out.1
              go_wp2_with fail
              refine bodyPost_ret (v := .tuple #[.agg y.cells.toArray, .bool en, .int .i64 0]) (by simp [results, Tryd.results14, go_sem, Exp.cells, y0, y1, y2, y3, y4, y5, y6]) rfl ?_
              rw [← H6.out.2.2]
              exact ⟨rfl, ⟨H6.out.2.1.os, H6.out.2.1.tape, H6.out.2.1.output, H6.out.2.1.size, H6.out.2.1.block⟩⟩
        · have hie : rest.isEmpty = false := by cases rest with | nil => exact absurd rfl h0 | cons _ _ => rfl
          have H0 := hid h0
          clear h0 q0
          have hkf := ownsRow_few H5.out.2.2
          have hkne := (readM_kids Hrm.out.1).1
          have hkto := readM_to Hrm.out.1 (List.length_pos_iff.2 H1.out.2.1)
          have hkto2 := readM_to2 Hrm.out.1
          obtain ⟨ks, hks⟩ : ∃ ks, ks = nd.kids := ⟨_, rfl⟩
          rw [← hks] at hkf hkne hkto hkto2 q8
          have hkv5 := H5.out.2.2
          rw [← hks] at hkv5
          obtain ⟨F, hF⟩ : ∃ F, F = ks.find? (fun k => k.edge.isPrefixOf rest) := ⟨_, rfl⟩
          have HK := hid (And.intro hks (And.intro hkv5 (And.intro hkne (And.intro hkto (And.intro hkto2 hF)))))
          have hrl : rest.length ≤ 255 := by omega
          clear hks hkv5 hkne hkto hkto2 hF
          go_upto_block 2 with fail
          go_cut [9, 12] (fun v9 v12 wx => NextR F rest v9 v12 ∧ wx = W5)
          case first =>
            go_wp2_with fail
            go_loop [9, 12, 13] (fun v9 v12 i => ∃ j : Nat, j ≤ ks.length ∧ v9 = .string (mkS rest) ∧ v12 = .int .i64 (-2) ∧ i = .int .i64 (j : Int) ∧ Aside ((ks.drop j).find? (fun k => k.edge.isPrefixOf rest) = F)) (fun _ _ i => ks.length - (intOf i).toNat)
            case atStart => exact ⟨0, Nat.zero_le _, rfl, rfl, rfl, by rw [List.drop_zero]; exact HK.out.2.2.2.2.2.symm⟩
            case round =>
              obtain ⟨j, hj, rfl, rfl, rfl, hfd⟩ := hrel
              have Hf := hid hfd.out
              clear hfd
              by_cases hlt : j < ks.length
              · have hltz : decide ((j : Int) < (ks.length : Int)) = true := by simp; omega
                obtain ⟨kd, hkd⟩ : ∃ kd, ks[j]? = some kd := ⟨_, List.getElem?_eq_getElem hlt⟩
                obtain ⟨g, gc, hg, hgl, e0, e1⟩ := kidsRow_at HK.out.2.1 hkd
                obtain ⟨hg1, -, hg3⟩ := Value.slice.inj hg
                subst hg1
                subst hg3
                have hdrop : ks.drop j = kd :: ks.drop (j + 1) := by
                  obtain ⟨hl2, rfl⟩ := List.getElem?_eq_some_iff.1 hkd
                  exact List.drop_eq_getElem_cons hl2
                have hf1 := Hf.out
                rw [hdrop, List.find?_cons] at hf1
                have hp := prefix_take kd.edge rest
                have hel := (HK.out.2.2.1 kd (List.mem_of_getElem? hkd)).2
                have hj0 : (0 : Int) ≤ (j : Int) := by omega
                have hjl : (j : Int) < (ks.length : Int) := by omega
                have Hlt := hid hlt
                cases hP : kd.edge.isPrefixOf rest with
                | true =>
                  rw [hP] at hf1 hp
                  rw [Bool.and_eq_true] at hp
                  have hle : kd.edge.length ≤ rest.length := by simpa using hp.1
                  have hd6 : decide ((kd.edge.length : Int) ≤ (rest.length : Int)) = true := by rw [decide_eq_true_eq]; omega
                  have hd7 : decide (kd.edge.length ≤ rest.length) = true := hp.1
                  have hx1 := mkS_take rest kd.edge.length hle
                  have hx2 := mkS_drop rest kd.edge.length
                  have hx3 : (rest.take kd.edge.length == kd.edge) = true := hp.2
                  have Hf1 := hid hf1
                  clear hf1 hp hP hdrop hkd hg hlt
                  go_wp2_with fail
                  go_meet
                  have hF : F = some kd := Hf1.out.symm
                  rw [hF]
                  exact ⟨⟨rfl, rfl⟩, rfl⟩
                | false =>
                  rw [hP] at hf1 hp
                  have Hf1 := hid hf1
                  by_cases hle : kd.edge.length ≤ rest.length
                  · have hx3 : (rest.take kd.edge.length == kd.edge) = false := by
                      rw [show decide (kd.edge.length ≤ rest.length) = true from by rw [decide_eq_true_eq]; exact hle, Bool.true_and] at hp
                      exact hp
                    have hd6 : decide ((kd.edge.length : Int) ≤ (rest.length : Int)) = true := by rw [decide_eq_true_eq]; omega
                    have hd7 : decide (kd.edge.length ≤ rest.length) = true := by rw [decide_eq_true_eq]; exact hle
                    have hx1 := mkS_take rest kd.edge.length hle
                    clear hf1 hp hP hdrop hkd hg hlt
                    go_wp2_with fail
                    go_round
                    case rel => exact ⟨j + 1, by have := Hlt.out; omega, rfl, rfl, by go_num, Hf1.out⟩
                    case measure => have := Hlt.out; simp [intOf]; omega
                  · have hd6 : decide ((kd.edge.length : Int) ≤ (rest.length : Int)) = false := by rw [decide_eq_false_iff_not]; omega
                    have hd7 : decide (kd.edge.length ≤ rest.length) = false := by rw [decide_eq_false_iff_not]; exact hle
                    clear hf1 hp hP hdrop hkd hg hlt
                    go_wp2_with fail
                    go_round
                    case rel => exact ⟨j + 1, by have := Hlt.out; omega, rfl, rfl, by go_num, Hf1.out⟩
                    case measure => have := Hlt.out; simp [intOf]; omega
              · have hltz : decide ((j : Int) < (ks.length : Int)) = false := by simp; omega
                have hn : F = none := by
                  rw [← Hf.out, show j = ks.length by omega, List.drop_length]; rfl
                have Hn := hid hn
                obtain rfl : j = ks.length := by omega
                clear hn hlt hltz
                go_wp2_with fail
                go_meet
                rw [Hn.out]
                exact ⟨⟨rfl, rfl⟩, rfl⟩
          case rest =>
            obtain ⟨hnx, rfl⟩ := hcut
            cases hFc : F with
            | none =>
              rw [hFc] at hnx
              obtain ⟨rfl, rfl⟩ := hnx
              obtain ⟨⟨x0, x1, x2, x3, x4, x5, x6⟩, xf, z0, z1, z2, z3, z4, z5, z6⟩ := H5.out.1.zeros
              have he := HS.out.2
              rw [findF_out HW.out (by rw [Int.toNat_natCast]; exact Hrm.out.1) H0.out (by rw [← HK.out.1, ← HK.out.2.2.2.2.2]; exact hFc)] at he
              have He := hid he
              clear he hFc q8
              go_wp2_with fail
              refine bodyPost_ret (v := .tuple #[.agg Exp.zero.cells.toArray, .bool false, .int .i64 0]) (by simp [results, Tryd.results14, go_sem, Exp.cells, Exp.zero, mkS, x0, x1, x2, x3, x4, x5, x6]) rfl ?_
              rw [← He.out]
              exact ⟨rfl, H5.out.1.low⟩
            | some kd =>
              rw [hFc] at hnx
              obtain ⟨rfl, rfl⟩ := hnx
              have hmem : kd ∈ ks := List.mem_of_find?_eq_some (HK.out.2.2.2.2.2.symm.trans hFc)
              have h1 := List.length_pos_iff.2 (HK.out.2.2.1 kd hmem).1
              have h2 := HK.out.2.2.2.1 kd hmem
              have h3 := HK.out.2.2.2.2.1 kd hmem
              have hq2 : (kd.to == (-2 : Int)) = false := by rw [beq_eq_false_iff_ne]; omega
              have he := HS.out.2
              rw [findF_on HW.out (by rw [Int.toNat_natCast]; exact Hrm.out.1) H0.out (by rw [← HK.out.1, ← HK.out.2.2.2.2.2]; exact hFc)] at he
              have He := hid (And.intro he (And.intro h1 h2))
              clear he hFc q8 h1 h2 h3 hmem
              go_wp2_with fail
              go_roundg (rest.drop kd.edge.length).length
              case measure =>
                have h1 := He.out.2.1
                have h2 := List.length_pos_iff.2 H0.out
                rw [List.length_drop, ← Hk.out]; omega
              case rel =>
                refine ⟨kd.to, rest.drop kd.edge.length, walk ++ [(a : Int)], rfl, rfl, rfl, ?_, He.out.2.2, ?_, ?_⟩
                · have h1 := He.out.2.1
                  have h2 := List.length_pos_iff.2 H0.out
                  rw [List.length_append, List.length_drop]; simp; omega
                · have := H5.out.1; simpa using this
                · have h1 := He.out.2.1
                  have h2 := List.length_pos_iff.2 H0.out
                  rw [← He.out.1]
                  refine findF_fuel ?_ ?_
                  · omega
                  · rw [List.length_drop]; omega
end Go.Proofs.YtipgcdpmkpjokaaDoor
