/- Pages: plain laws: how many there are; what is looked, written and read in one page. -/
import Derived.Test.YtacmjpkcimjjpaaSpV
namespace Go.Proofs.Ytacmjpkcimjjpaa
set_option linter.unusedSimpArgs false
set_option linter.unusedVariables false
open Go.RowKit Go.Maps

theorem fold_size : ∀ (pgs : List Pg) (D : DataW Unit), Tidy D → pgs.Pairwise (fun x y => x.no ≠ y.no) → (∀ g ∈ pgs, has D (.int .u64 (g.no : Int)) = false) →
    Maps.size (pgs.foldl (fun D g => D.put (.int .u64 (g.no : Int)) (pageD g.blk g.prot)) D) = Maps.size D + pgs.length
  | [], D, h, _, _ => rfl
  | g :: r, D, h, hp, hn => by
    obtain ⟨p1, p2⟩ := List.pairwise_cons.1 hp
    rw [List.foldl_cons, fold_size r _ (h.put (isKeyU64 _) _) p2 (fun x hx => ?_), size_put h, hn g (by simp), List.length_cons]
    · simp; omega
    · rw [has_put_other (fun e => p1 x hx (by simp at e; omega))]
      exact hn x (by simp [hx])

theorem size_spD {pgs : List Pg} (hp : pgs.Pairwise (fun x y => x.no ≠ y.no)) : Maps.size (spD pgs) = pgs.length := by
  have := fold_size pgs (.map []) tidy_empty hp (fun _ _ => rfl)
  simpa [spD, Maps.size] using this

/-- What is looked for in one page. -/
theorem lookE_one {pgs : List Pg} {a z : Nat} {p : Int} {g : Pg} (hp : pgs.Pairwise (fun x y => x.no ≠ y.no)) (hz : 0 < z) (hm : a % 4096 + z ≤ 4096) (ha : a + z ≤ 140737488355328) (hg : pgAt pgs (a / 4096) = some g) :
    lookE pgs a z p = if bits .and .i64 g.prot p != p then 19 else 0 := by
  have hn : 0 < pgs.length := List.length_pos_of_mem (pgAt_mem hg).1
  have h1 : (a + z - 1) / 4096 + 1 - a / 4096 = 1 := by omega
  unfold lookE
  rw [if_pos (by unfold inB; simp; omega), h1, size_spD hp, if_neg (by omega), lookL_some hg]
  rfl

/-- What is written to one page. -/
theorem putM_one {k : Nat} {pgs : List Pg} {a : Nat} {l : List UInt8} (hl : 0 < l.length) (hm : a % 4096 + l.length ≤ 4096) : putM (k + 1) pgs a l = setPg pgs (a / 4096) (a % 4096) l := by
  rw [putM_step hl (c := l.length) (by omega), List.take_of_length_le (Nat.le_refl _), List.drop_of_length_le (Nat.le_refl _), putM_nil]

theorem rdM_one {k : Nat} {pgs : List Pg} {a z : Nat} (hz : 0 < z) (hm : a % 4096 + z ≤ 4096) : rdM (k + 1) pgs a z = ((pgB pgs (a / 4096)).drop (a % 4096)).take z := by
  rw [rdM_step hz (c := z) (by omega), Nat.sub_self, rdM_zero, List.append_nil]

theorem spl_get {l cs : List UInt8} {off : Nat} (h : off + cs.length ≤ l.length) : ((spl l off cs).drop off).take cs.length = cs := by
  unfold spl
  rw [List.drop_append, List.drop_take, Nat.sub_self, List.take_zero, List.nil_append, show off - (l.take off).length = 0 from by simp; omega, List.drop_zero, List.take_append, List.take_of_length_le (Nat.le_refl _), Nat.sub_self, List.take_zero, List.append_nil]

theorem pgB_set {pgs : List Pg} {n off : Nat} {cs : List UInt8} {g : Pg} (hg : pgAt pgs n = some g) : pgB (setPg pgs n off cs) n = spl g.bytes off cs := by
  unfold pgB
  rw [pgAt_set, hg]
  simp [(pgAt_mem hg).2]

/-- What was written to one page is read there. -/
theorem rd_put {pgs : List Pg} {a z : Nat} {l : List UInt8} {g : Pg} (hz : l.length = z) (h0 : 0 < z) (hm : a % 4096 + z ≤ 4096) (hg : pgAt pgs (a / 4096) = some g) (hb : g.bytes.length = 4096) : rdM z (putM z pgs a l) a z = l := by
  subst hz
  obtain ⟨k, hk⟩ : ∃ k, l.length = k + 1 := ⟨l.length - 1, by omega⟩
  have h1 : putM l.length pgs a l = setPg pgs (a / 4096) (a % 4096) l := by
    conv => lhs; rw [hk]
    exact putM_one h0 hm
  have h2 : ∀ P, rdM l.length P a l.length = ((pgB P (a / 4096)).drop (a % 4096)).take l.length := fun P => by
    conv => lhs; rw [show rdM l.length P a l.length = rdM (k + 1) P a l.length by rw [hk]]
    exact rdM_one h0 hm
  rw [h1, h2, pgB_set hg, spl_get (by rw [hb]; exact hm)]

theorem SpF.below {w1 w2 : World} {pgs : List Pg} {B : Nat} (h : SpF w1 w2 pgs) (hg : ∀ g ∈ pgs, B ≤ g.blk) (hB : B ≤ w1.heap.size) : Below B w1 w2 :=
  ⟨h.os, h.tape, h.output, h.size, fun k hk => h.block k (Nat.lt_of_lt_of_le hk hB) (fun g hgm e => by have := hg g hgm; omega)⟩

theorem keys_pages {p q : List Pg} (h : p.map pgK = q.map pgK) {B : Nat} (hg : ∀ g ∈ q, B ≤ g.blk) : ∀ g ∈ p, B ≤ g.blk := by
  intro g hgm
  obtain ⟨g', h1, h2⟩ := mem_keys h.symm hgm
  have : g'.blk = g.blk := congrArg (fun x : Nat × Int × Nat => x.2.2) h2
  rw [← this]; exact hg g' h1
end Go.Proofs.Ytacmjpkcimjjpaa
