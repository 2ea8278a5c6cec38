/- A space: its pages in memory. -/
import Derived.Test.YtacmjpkcimjjpaaRow
import Derived.Test.YtacmjpkcimjjpaaRows
import Derived.WalkArith
import Derived.Maps.OwnSet
import Derived.Maps.OwnOps
import Derived.Maps.RangeWalk
import Derived.Maps.Views
namespace Go.Proofs.Ytacmjpkcimjjpaa
set_option linter.unusedSimpArgs false
set_option linter.unusedVariables false
open Go.RowKit Go.Maps

/-- A page: its number, its protection, where its bytes stand, these. -/
structure Pg where
  no : Nat
  prot : Int
  blk : Nat
  bytes : List UInt8

def pageV (g : Nat) (p : Int) : Value := .agg #[.pointer (some ⟨g, 0, none⟩), .int .i64 p]
def pageZ : Value := .agg #[.pointer none, .int .i64 0]
def pageD (g : Nat) (p : Int) : DataW Unit := .agg [.lit (.int .u64 (g : Int)), .lit (.int .i64 p)]
def zeroD : DataW Unit := .nil

theorem pageV_inj {g g' : Nat} {p p' : Int} (h : pageV g p = pageV g' p') : g = g' ∧ p = p' := by
  unfold pageV at h
  simp at h
  exact h

open Classical in
/-- How an element of the map reads. -/
noncomputable def pgElem (v : Value) : Option (DataW Unit × List MemPlace) :=
  if h : ∃ q : Nat × Int, v = pageV q.1 q.2 then some (pageD h.choose.1 h.choose.2, []) else if v = pageZ then some (zeroD, []) else none

theorem pgElem_mk (g : Nat) (p : Int) : pgElem (pageV g p) = some (pageD g p, []) := by
  unfold pgElem
  have h : ∃ q : Nat × Int, pageV g p = pageV q.1 q.2 := ⟨(g, p), rfl⟩
  rw [dif_pos h]
  obtain ⟨h1, h2⟩ := pageV_inj h.choose_spec
  rw [← h1, ← h2]

theorem pgElem_zero : pgElem pageZ = some (zeroD, []) := by
  unfold pgElem
  rw [dif_neg (fun ⟨q, h⟩ => by unfold pageZ pageV at h; simp at h), if_pos rfl]

theorem pgElem_inv {v : Value} {y : DataW Unit × List MemPlace} (h : pgElem v = some y) : (∃ g p, v = pageV g p ∧ y = (pageD g p, [])) ∨ (v = pageZ ∧ y = (zeroD, [])) := by
  by_cases h1 : ∃ q : Nat × Int, v = pageV q.1 q.2
  · obtain ⟨⟨g, p⟩, rfl⟩ := h1
    rw [pgElem_mk] at h
    cases h
    exact .inl ⟨g, p, rfl, rfl⟩
  · unfold pgElem at h
    rw [dif_neg h1] at h
    split at h
    · rename_i h2
      cases h
      exact .inr ⟨h2, rfl⟩
    · cases h

theorem pageD_inj {g g' : Nat} {p p' : Int} (h : pageD g p = pageD g' p') : g = g' ∧ p = p' := by
  unfold pageD at h
  simp at h
  exact ⟨by omega, h.2⟩

theorem pageD_zero {g : Nat} {p : Int} (h : pageD g p = zeroD) : False := by unfold pageD zeroD at h; cases h

theorem pgElem_page {v : Value} {g : Nat} {p : Int} {ps : List MemPlace} (h : pgElem v = some (pageD g p, ps)) : v = pageV g p := by
  rcases pgElem_inv h with ⟨g', p', rfl, h1⟩ | ⟨_, h1⟩
  · obtain ⟨e1, e2⟩ := pageD_inj (Prod.mk.inj h1).1
    rw [e1, e2]
  · exact (pageD_zero (Prod.mk.inj h1).1).elim

theorem pgElem_none {v : Value} {ps : List MemPlace} (h : pgElem v = some (zeroD, ps)) : v = pageZ := by
  rcases pgElem_inv h with ⟨g', p', rfl, h1⟩ | ⟨h1, _⟩
  · exact (pageD_zero (Prod.mk.inj h1).1.symm).elim
  · exact h1

/-- The map of pages. -/
def spD (pgs : List Pg) : DataW Unit := pgs.foldl (fun D g => D.put (.int .u64 (g.no : Int)) (pageD g.blk g.prot)) (.map [])

theorem spD_snoc (pgs : List Pg) (g : Pg) : spD (pgs ++ [g]) = (spD pgs).put (.int .u64 (g.no : Int)) (pageD g.blk g.prot) := by unfold spD; rw [List.foldl_append]; rfl

def pgAt (pgs : List Pg) (n : Nat) : Option Pg := pgs.find? (fun g => g.no == n)

theorem keyU64 {n : Nat} (h : n < 2 ^ 64) : keyOf Try.prog 22 (.int .u64 (n : Int)) = some (.int .u64 (n : Int)) := keyOf_int_mk Try.underlying22 (WalkArith.wf_u64 (by omega))

theorem isKeyU64 (n : Nat) : WideAt.IsKeyLit (.int .u64 (n : Int)) := trivial

theorem fold_isMap : ∀ (pgs : List Pg) (D : DataW Unit), IsMap D → IsMap (pgs.foldl (fun D g => D.put (.int .u64 (g.no : Int)) (pageD g.blk g.prot)) D)
  | [], D, h => h
  | g :: r, D, h => fold_isMap r _ (h.put _ _)

theorem fold_at : ∀ (pgs : List Pg) (D : DataW Unit), IsMap D → pgs.Pairwise (fun x y => x.no ≠ y.no) → ∀ (n : Nat) (z : DataW Unit),
    (pgs.foldl (fun D g => D.put (.int .u64 (g.no : Int)) (pageD g.blk g.prot)) D).atKey (.int .u64 (n : Int)) z = match pgAt pgs n with | some g => pageD g.blk g.prot | none => D.atKey (.int .u64 (n : Int)) z
  | [], D, h, _, n, z => rfl
  | g :: r, D, h, hp, n, z => by
    rw [List.foldl_cons, fold_at r _ (h.put _ _) (List.pairwise_cons.1 hp).2]
    unfold pgAt
    rw [List.find?_cons]
    by_cases hn : g.no = n
    · have : r.find? (fun g => g.no == n) = none := by
        rw [List.find?_eq_none]
        intro x hx
        have := (List.pairwise_cons.1 hp).1 x hx
        simp; omega
      rw [this]
      subst hn
      simp only [beq_self_eq_true]
      exact atKey_put_same h (isKeyU64 _) _ _
    · have hb : (g.no == n) = false := by rw [beq_eq_false_iff_ne]; exact hn
      rw [hb]
      cases r.find? (fun g => g.no == n) with
      | some x => rfl
      | none => exact atKey_put_other (fun e => hn (by simp at e; omega)) _ _

theorem fold_has : ∀ (pgs : List Pg) (D : DataW Unit), IsMap D → ∀ (n : Nat),
    has (pgs.foldl (fun D g => D.put (.int .u64 (g.no : Int)) (pageD g.blk g.prot)) D) (.int .u64 (n : Int)) = (has D (.int .u64 (n : Int)) || pgs.any (fun g => g.no == n))
  | [], D, h, n => by simp
  | g :: r, D, h, n => by
    rw [List.foldl_cons, fold_has r _ (h.put _ _), List.any_cons]
    by_cases hn : g.no = n
    · subst hn
      rw [has_put_same h (isKeyU64 _)]; simp
    · have hb : (g.no == n) = false := by rw [beq_eq_false_iff_ne]; exact hn
      rw [hb, has_put_other (fun e => hn (by simp at e; omega))]; simp

theorem spD_at {pgs : List Pg} (hp : pgs.Pairwise (fun x y => x.no ≠ y.no)) (n : Nat) (z : DataW Unit) : (spD pgs).atKey (.int .u64 (n : Int)) z = match pgAt pgs n with | some g => pageD g.blk g.prot | none => z :=
  fold_at pgs (.map []) isMap_empty hp n z

theorem spD_has (pgs : List Pg) (n : Nat) : has (spD pgs) (.int .u64 (n : Int)) = pgs.any (fun g => g.no == n) := by
  unfold spD
  rw [fold_has pgs (.map []) isMap_empty n]; simp [has]

theorem zeroPage (w : World) : (zeroValue 101).run Try.prog w = .ok pageZ w := by kernel_rfl
theorem lawU64 : Keyed Try.prog 22 := int_keyed Try.underlying22

/-- The space in the block s, its map in the block b, has just these pages. -/
structure SpAt (w : World) (s b : Nat) (pgs : List Pg) : Prop where
  row : RowAt w s 92 #[.map (some b)]
  map : w.ownsMap Try.prog 22 pgElem b pgs.length (spD pgs)
  pages : ∀ g ∈ pgs, RowAt w g.blk 99 (u8s g.bytes).toArray ∧ g.bytes.length = 4096 ∧ g.no < 2 ^ 64
  nos : pgs.Pairwise (fun x y => x.no ≠ y.no)
  blks : pgs.Pairwise (fun x y => x.blk ≠ y.blk)
  ne : s ≠ b ∧ ∀ g ∈ pgs, g.blk ≠ s ∧ g.blk ≠ b

theorem pgAt_mem {pgs : List Pg} {n : Nat} {g : Pg} (h : pgAt pgs n = some g) : g ∈ pgs ∧ g.no = n := by
  have h1 := List.mem_of_find?_eq_some h
  have h2 := List.find?_some h
  exact ⟨h1, by simpa using h2⟩

theorem pgAt_any (pgs : List Pg) (n : Nat) : pgs.any (fun g => g.no == n) = (pgAt pgs n).isSome := by
  unfold pgAt
  rw [Bool.eq_iff_iff, List.find?_isSome, List.any_eq_true]

section
variable {w w' : World} {s b : Nat} {pgs : List Pg}

/-- 'p, is := s.pages[n]' -/
theorem SpAt.look_ok (h : SpAt w s b pgs) {n : Nat} (hn : n < 2 ^ 64) :
    (Instr.lookup 90 (.map (some b)) (.int .u64 (n : Int)) true).run Try.prog w = .ok (.tuple #[(match pgAt pgs n with | some g => pageV g.blk g.prot | none => pageZ), .bool (pgAt pgs n).isSome]) w := by
  obtain ⟨v, ps, hrun, hv⟩ := h.map.look_ok lawU64 Try.underlying90 (zeroPage w) pgElem_zero (keyU64 hn)
  rw [hrun, spD_has, pgAt_any]
  rw [spD_at h.nos] at hv
  cases hp : pgAt pgs n with
  | some g => rw [hp] at hv; rw [pgElem_page hv]
  | none => rw [hp] at hv; rw [pgElem_none hv]

/-- 's.pages[n]' -/
theorem SpAt.look (h : SpAt w s b pgs) {n : Nat} (hn : n < 2 ^ 64) :
    (Instr.lookup 90 (.map (some b)) (.int .u64 (n : Int)) false).run Try.prog w = .ok (match pgAt pgs n with | some g => pageV g.blk g.prot | none => pageZ) w := by
  obtain ⟨v, ps, hrun, hv⟩ := h.map.lookup lawU64 Try.underlying90 (zeroPage w) pgElem_zero (keyU64 hn)
  rw [hrun]
  rw [spD_at h.nos] at hv
  cases hp : pgAt pgs n with
  | some g => rw [hp] at hv; rw [pgElem_page hv]
  | none => rw [hp] at hv; rw [pgElem_none hv]

theorem SpAt.lt (h : SpAt w s b pgs) : s < w.heap.size ∧ b < w.heap.size ∧ ∀ g ∈ pgs, g.blk < w.heap.size :=
  ⟨h.row.lt, h.map.lt, fun g hg => (h.pages g hg).1.lt⟩

/-- Blocks that are none of the space's. -/
theorem SpAt.kept (h : SpAt w s b pgs) {r : Option Nat} (hg : w.grownBy w' r) (hs : some s ≠ r) (hb : some b ≠ r) (hp : ∀ g ∈ pgs, some g.blk ≠ r) : SpAt w' s b pgs :=
  ⟨h.row.grown hg hs, h.map.kept hg hb, fun g hgm => ⟨(h.pages g hgm).1.grown hg (hp g hgm), (h.pages g hgm).2⟩, h.nos, h.blks, h.ne⟩

theorem SpAt.below (h : SpAt w s b pgs) (hb : Below w.heap.size w w') : SpAt w' s b pgs :=
  h.kept (Below.all hb none) (by simp) (by simp) (fun _ _ => by simp)
end
end Go.Proofs.Ytacmjpkcimjjpaa
