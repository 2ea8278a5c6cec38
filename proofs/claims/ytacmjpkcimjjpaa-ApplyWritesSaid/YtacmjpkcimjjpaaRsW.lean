/- The reference's Write into a space. -/
import Derived.Test.YtacmjpkcimjjpaaRsK
namespace Go.Proofs.Ytacmjpkcimjjpaa
set_option linter.unusedSimpArgs false
set_option linter.unusedVariables false
open Go.RowKit Go.Maps

/-- What is written, byte by byte. -/
def putB : List Pg → Nat → List UInt8 → List Pg
  | pgs, _, [] => pgs
  | pgs, a, x :: r => putB (setPg pgs (a / 4096) (a % 4096) [x]) (a + 1) r

theorem putB_snoc : ∀ (l : List UInt8) (pgs : List Pg) (a : Nat) (x : UInt8), putB pgs a (l ++ [x]) = setPg (putB pgs a l) ((a + l.length) / 4096) ((a + l.length) % 4096) [x]
  | [], pgs, a, x => rfl
  | y :: r, pgs, a, x => by
    show putB (setPg pgs (a / 4096) (a % 4096) [y]) (a + 1) (r ++ [x]) = _
    rw [putB_snoc r]
    show _ = setPg (putB (setPg pgs (a / 4096) (a % 4096) [y]) (a + 1) r) _ _ _
    rw [show a + 1 + r.length = a + (y :: r).length from by simp; omega]

theorem putB_keys : ∀ (l : List UInt8) (pgs : List Pg) (a : Nat), (putB pgs a l).map pgK = pgs.map pgK
  | [], pgs, a => rfl
  | x :: r, pgs, a => by
    show (putB _ _ r).map pgK = _
    rw [putB_keys r, setPg_keys]

theorem putB_append : ∀ (l m : List UInt8) (pgs : List Pg) (a : Nat), putB pgs a (l ++ m) = putB (putB pgs a l) (a + l.length) m
  | [], m, pgs, a => rfl
  | x :: r, m, pgs, a => by
    show putB (setPg pgs _ _ [x]) (a + 1) (r ++ m) = _
    rw [putB_append r]
    show _ = putB (putB (setPg pgs _ _ [x]) (a + 1) r) _ m
    rw [show a + 1 + r.length = a + (x :: r).length from by simp; omega]

theorem spl_at (A R cs : List UInt8) : spl (A ++ R) A.length cs = A ++ (cs ++ R.drop cs.length) := by
  unfold spl
  rw [List.take_left, List.drop_append, List.drop_of_length_le (by omega), List.nil_append, show A.length + cs.length - A.length = cs.length from by omega]

theorem spl_cons {l cs : List UInt8} {off : Nat} {x : UInt8} (h : off < l.length) : spl (spl l off [x]) (off + 1) cs = spl l off (x :: cs) := by
  obtain ⟨A, y, R, rfl, rfl⟩ : ∃ A y R, l = A ++ y :: R ∧ off = A.length := ⟨l.take off, l[off], l.drop (off + 1), by rw [← List.drop_eq_getElem_cons h, List.take_append_drop], by simp; omega⟩
  rw [spl_at, spl_at]
  have := spl_at (A ++ [x]) R cs
  rw [List.length_append, List.append_assoc] at this
  simpa using this

theorem setPg_one {pgs : List Pg} {n off : Nat} {x : UInt8} {cs : List UInt8} (hb : ∀ g ∈ pgs, off < g.bytes.length) : setPg (setPg pgs n off [x]) n (off + 1) cs = setPg pgs n off (x :: cs) := by
  unfold setPg
  rw [List.map_map]
  refine List.map_congr_left fun g hg => ?_
  by_cases e : g.no = n
  · simp only [Function.comp, e, if_true]
    rw [spl_cons (hb g hg)]
  · simp only [Function.comp, e, if_false]

theorem setPg_nil (pgs : List Pg) (n off : Nat) : setPg pgs n off [] = pgs := by
  unfold setPg
  conv => rhs; rw [← List.map_id pgs]
  refine List.map_congr_left fun g hg => ?_
  split
  · unfold spl; simp
  · rfl

theorem setPg_full {pgs : List Pg} {n off : Nat} {cs : List UInt8} (hb : ∀ g ∈ pgs, g.bytes.length = 4096) (h : off + cs.length ≤ 4096) : ∀ g ∈ setPg pgs n off cs, g.bytes.length = 4096 := by
  intro g hg
  unfold setPg at hg
  obtain ⟨q, hq, rfl⟩ := List.mem_map.1 hg
  split
  · exact (spl_length (by rw [hb q hq]; exact h)).trans (hb q hq)
  · exact hb q hq

/-- Within one page. -/
theorem putB_page : ∀ (l : List UInt8) {pgs : List Pg} {a : Nat}, (∀ g ∈ pgs, g.bytes.length = 4096) → a % 4096 + l.length ≤ 4096 → putB pgs a l = setPg pgs (a / 4096) (a % 4096) l
  | [], pgs, a, _, _ => (setPg_nil _ _ _).symm
  | x :: r, pgs, a, hb, h => by
    show putB (setPg pgs (a / 4096) (a % 4096) [x]) (a + 1) r = _
    simp only [List.length_cons] at h
    have hb' := setPg_full (n := a / 4096) (off := a % 4096) (cs := [x]) hb (by simp; omega)
    by_cases hr : r = []
    · subst hr; rfl
    · have hl := List.length_pos_iff.2 hr
      rw [putB_page r hb' (by omega), show (a + 1) / 4096 = a / 4096 from by omega, show (a + 1) % 4096 = a % 4096 + 1 from by omega, setPg_one (fun g hg => by rw [hb g hg]; omega)]

/-- The pages' way and the bytes' way are one. -/
theorem putM_putB : ∀ (k : Nat) {pgs : List Pg} {a : Nat} {l : List UInt8}, l.length ≤ k → (∀ g ∈ pgs, g.bytes.length = 4096) → putM k pgs a l = putB pgs a l
  | 0, pgs, a, l, h, _ => by
    have : l = [] := List.eq_nil_of_length_eq_zero (by omega)
    subst this; rfl
  | k + 1, pgs, a, l, h, hb => by
    by_cases h0 : l = []
    · subst h0; rw [putM_nil]; rfl
    · have hl := List.length_pos_iff.2 h0
      obtain ⟨c, hc⟩ : ∃ c, c = min l.length (4096 - a % 4096) := ⟨_, rfl⟩
      rw [putM_step hl hc, putM_putB k (by rw [List.length_drop]; omega) (setPg_full hb (by rw [List.length_take]; omega))]
      conv => rhs; rw [← List.take_append_drop c l]
      rw [putB_append, putB_page _ hb (by rw [List.length_take]; omega), List.length_take, show min c l.length = c from by omega]

theorem atCells_keys {p q : List Pg} (h : p.map pgK = q.map pgK) : atCells p = atCells q ∧ bCells p = bCells q ∧ pCells p = pCells q := by
  have h1 : ∀ l : List Pg, atCells l = (l.map pgK).map (fun k => .int .u64 ((k.1 * 4096 : Nat) : Int)) := fun l => by unfold atCells; rw [List.map_map]; rfl
  have h2 : ∀ l : List Pg, bCells l = (l.map pgK).map (fun k => .slice (some ⟨k.2.2, 0, none⟩) 4096 4096) := fun l => by unfold bCells; rw [List.map_map]; rfl
  have h3 : ∀ l : List Pg, pCells l = (l.map pgK).map (fun k => .int .i64 k.2.1) := fun l => by unfold pCells; rw [List.map_map]; rfl
  rw [h1, h1, h2, h2, h3, h3, h]
  exact ⟨rfl, rfl, rfl⟩

/-- One byte is written. -/
theorem RSp.set {n0 : Nat} {W : World} {r : Nat} {vA vB vP : Value} {pgs : List Pg} (h : RSp n0 W r vA vB vP pgs) {n off : Nat} {q : Pg} {x : UInt8} (hq : pgAt pgs n = some q) (ho : off < 4096) :
    RSp n0 (W.setCell ⟨q.blk, off, none⟩ (.int .u8 (x.toNat : Int))) r vA vB vP (setPg pgs n off [x]) := by
  obtain ⟨hqm, hqn⟩ := pgAt_mem hq
  have hk := setPg_keys pgs n off [x]
  obtain ⟨k1, k2, k3⟩ := atCells_keys hk
  have hlen : (setPg pgs n off [x]).length = pgs.length := by have := congrArg List.length hk; simpa using this
  obtain ⟨e1, e2, e3, e4⟩ := h.ne
  obtain ⟨q1, q2, q3, q4⟩ := e4 q hqm
  refine ⟨h.row.other (Ne.symm q1) _, by rw [hlen, k1]; exact ownsRow_setOther h.a q2 _, by rw [hlen, k2]; exact ownsRow_setOther h.b q3 _, by rw [hlen, k3]; exact ownsRow_setOther h.p q4 _, ?_, ?_, ?_, ⟨e1, e2, e3, ?_⟩, h.lo⟩
  · intro g hg
    unfold setPg at hg
    obtain ⟨g', hg', rfl⟩ := List.mem_map.1 hg
    obtain ⟨p1, p2, p3, p4⟩ := h.pages g' hg'
    split
    · rename_i e
      have he : g' = q := pw_inj (f := Pg.no) (h.nos.imp (fun h => Nat.ne_of_lt h)) hg' hqm (by rw [e, hqn])
      subst he
      refine ⟨?_, (spl_length (by rw [p2]; simp; omega)).trans p2, p3, p4⟩
      have := p1.same (.int .u8 (x.toNat : Int)) (i := off)
      have e : (u8s (spl g'.bytes off [x])).toArray = (u8s g'.bytes).toArray.setIfInBounds off (.int .u8 (x.toNat : Int)) := by
        obtain ⟨A, y, R, hl, ha⟩ : ∃ A y R, g'.bytes = A ++ y :: R ∧ off = A.length := ⟨g'.bytes.take off, g'.bytes[off]'(by rw [p2]; exact ho), g'.bytes.drop (off + 1), by rw [← List.drop_eq_getElem_cons (by rw [p2]; exact ho), List.take_append_drop], by simp; omega⟩
        rw [hl, ha, spl_at]
        simp [u8s, List.setIfInBounds_toArray, List.set_append]
      show RowAt _ g'.blk _ (u8s (spl g'.bytes off [x])).toArray
      rw [e]; exact this
    · rename_i e
      refine ⟨p1.other (fun e2 => e ?_) _, p2, p3, p4⟩
      have : g' = q := pw_inj (f := Pg.blk) h.blks hg' hqm e2
      rw [this, hqn]
  · exact pairs_congr (R := fun x y => x.1 < y.1) hk.symm h.nos
  · exact pairs_congr (R := fun x y => x.2.2 ≠ y.2.2) hk.symm h.blks
  · intro g hg
    obtain ⟨g', h1, h2⟩ := mem_keys hk.symm hg
    have e : g'.blk = g.blk := congrArg (fun x : Nat × Int × Nat => x.2.2) h2
    rw [← e]; exact e4 g' h1
end Go.Proofs.Ytacmjpkcimjjpaa
