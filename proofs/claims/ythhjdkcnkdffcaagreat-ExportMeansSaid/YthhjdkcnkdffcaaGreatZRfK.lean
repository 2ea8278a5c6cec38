/- Slices of exports, cut and appended. -/
import Derived.Test.YthhjdkcnkdffcaaGreatZSortM
import Derived.Test.YthhjdkcnkdffcaaGreatZAllE
import Derived.Test.YthhjdkcnkdffcaaGreatZRfA
namespace Go.Proofs.YthhjdkcnkdffcaaGreat
set_option linter.unusedSimpArgs false
set_option linter.unusedVariables false
open Go.RowKit
theorem ES.of_block {w w' : World} {v : Value} {l : List Exp} (h : ES w v l) (hb : ∀ k, inBlk v k → k < w.heap.size → w'.heap[k]? = w.heap[k]?) : ES w' v l := by
  obtain ⟨p, cap, rfl, h1, h2, h3⟩ := h
  refine ⟨p, cap, rfl, h1, h2, fun hne => ?_⟩
  obtain ⟨b, off, rfl, hc⟩ := h3 hne
  refine ⟨b, off, rfl, fun i x hx c u hu => ?_⟩
  have h4 := hc i x hx c u hu
  rw [← h4]
  exact World.cell?_of_block (hb b ⟨List.length_pos_iff.2 hne, rfl⟩ (lt_of_cellB h4))
theorem ES.heap {w w' : World} {v : Value} {l : List Exp} (h : ES w v l) (hh : w'.heap = w.heap) : ES w' v l := h.of_block fun _ _ _ => by rw [hh]
theorem ES.lt {w : World} {v : Value} {l : List Exp} (h : ES w v l) {k : Nat} (hk : inBlk v k) : k < w.heap.size := by
  obtain ⟨p, cap, rfl, h1, h2, h3⟩ := h
  have hpos : 0 < l.length := inBlk_pos (p := p) (c := cap) hk
  obtain ⟨b, off, rfl, hc⟩ := h3 (by intro e; rw [e] at hpos; exact absurd hpos (by simp))
  have h0 := hc 0 _ (List.getElem?_eq_getElem hpos) 0 _ rfl
  have := lt_of_cellB h0
  have e : b = k := hk.2
  rw [← e]; exact this
/-- The address of what is cut out of exports from k on. -/
def subE (p : Option Addr) (k m : Nat) : Option Addr := if m = k then p else p.map (·.add (k * 7))
theorem ES.drop {w : World} {p : Option Addr} {n cap : Nat} {l : List Exp} (h : ES w (.slice p n cap) l) {k : Nat} (hk : k ≤ n) : ES w (.slice (subE p k cap) (n - k) (cap - k)) (l.drop k) := by
  obtain ⟨p', cap', he, h1, h2, h3⟩ := h
  cases he
  have hlen : (l.drop k).length = l.length - k := List.length_drop
  refine ⟨_, _, by rw [hlen], by rw [hlen]; omega, ⟨by omega, by omega⟩, fun hne => ?_⟩
  have hpos := List.length_pos_iff.2 hne
  rw [hlen] at hpos
  obtain ⟨b, off, rfl, hc⟩ := h3 (by intro e; subst e; simp at hpos)
  refine ⟨b, off + k * 7, ?_, fun i x hx c u hu => ?_⟩
  · unfold subE
    rw [if_neg (by omega)]
    by_cases h0 : k = 0
    · subst h0; simp [Addr.add]
    · have h7 : ¬ k * 7 = 0 := by omega
      simp [Addr.add, h7]
  · rw [List.getElem?_drop] at hx
    have := hc (k + i) x hx c u hu
    rw [show off + k * 7 + i * 7 + c = off + (k + i) * 7 + c by omega]
    exact this
theorem ES.take {w : World} {p : Option Addr} {n cap : Nat} {l : List Exp} (h : ES w (.slice p n cap) l) {k : Nat} (hk : k ≤ n) : ES w (.slice p k cap) (l.take k) := by
  obtain ⟨p', cap', he, h1, h2, h3⟩ := h
  cases he
  have hlen : (l.take k).length = k := by rw [List.length_take]; omega
  refine ⟨_, _, by rw [hlen], by rw [hlen]; omega, ⟨by omega, by omega⟩, fun hne => ?_⟩
  obtain ⟨b, off, rfl, hc⟩ := h3 (by intro e; subst e; simp at hne)
  refine ⟨b, off, rfl, fun i x hx c u hu => ?_⟩
  rw [List.getElem?_take] at hx
  split at hx
  · exact hc i x hx c u hu
  · cases hx
theorem subE_blk {p : Option Addr} {n cap k j : Nat} (hk : k ≤ n) (h : inBlk (.slice (subE p k cap) (n - k) (cap - k)) j) : inBlk (.slice p n cap) j := by
  cases p with
  | none =>
    have : subE none k cap = none := by unfold subE; split <;> rfl
    rw [this] at h
    exact h.elim
  | some a =>
    have : ∃ a', subE (some a) k cap = some a' ∧ a'.block = a.block := by
      unfold subE; split
      · exact ⟨a, rfl, rfl⟩
      · exact ⟨_, rfl, add_block a _⟩
    obtain ⟨a', e, hb⟩ := this
    rw [e] at h
    have h' : 0 < n - k ∧ a'.block = j := h
    show 0 < n ∧ a.block = j
    rw [← hb]
    exact ⟨by omega, h'.2⟩
section
variable {P : Program} {w : World} {t : TypeId} (p : Option Addr) (n cap : Nat)
theorem run_subEl (ht : P.underlying t = some (.slice (P.elem t))) (hs : (sizeOf (P.elem t)).run P w = .ok 7 w) (kl : IntKind) (lo : Int) (h0 : 0 ≤ lo) (h1 : lo ≤ n) :
    (Instr.slice t (.slice p n cap) (some (.int kl lo)) none none).run P w = .ok (.slice (subE p lo.toNat cap) (n - lo.toNat) (cap - lo.toNat)) w := by
  rw [run_slice_l w t p n cap ht kl lo h0 h1, hs]
  simp [sliced, subE, Result.andThen]
theorem run_subEh (ht : P.underlying t = some (.slice (P.elem t))) (hs : (sizeOf (P.elem t)).run P w = .ok 7 w) (kh : IntKind) (hi : Int) (h0 : 0 ≤ hi) (h1 : hi ≤ cap) :
    (Instr.slice t (.slice p n cap) none (some (.int kh hi)) none).run P w = .ok (.slice p hi.toNat cap) w := by
  rw [run_slice_h w t p n cap ht kh hi h0 h1, hs]
  cases p <;> simp [sliced, Result.andThen, addr_add_zero]
end
theorem Src.exps {P : Program} {w : World} {tx e' : TypeId} (hk : P.underlying tx = some (.slice e')) {p : Option Addr} {n cap : Nat} {l : List Exp} (h : ES w (.slice p n cap) l) : Src P 7 tx (.slice p n cap) n (expCells l) w := by
  obtain ⟨p', cap', he, h1, h2, h3⟩ := h
  cases he
  rcases Nat.eq_zero_or_pos l.length with hn | hn
  · obtain rfl : l = [] := List.eq_nil_of_length_eq_zero hn
    cases p with
    | none => exact Src.ofNil w hk cap
    | some a => exact Src.ofSlice w hk a 0 cap [] (by simp) (by simp) (by simp)
  · obtain ⟨b, off, rfl, hc⟩ := h3 (by intro e; rw [e] at hn; exact absurd hn (by simp))
    refine Src.ofSlice w hk _ l.length cap (expCells l) (expCells_length l) (fun j u hu => ?_) (fun u hu => ?_)
    · have hj : j < l.length * 7 := by have := (List.getElem?_eq_some_iff.1 hu).1; rw [expCells_length] at this; exact this
      have hi : j / 7 < l.length := by omega
      have hx : l[j / 7]? = some (l[j / 7]) := List.getElem?_eq_getElem hi
      have hcl : j % 7 < (l[j / 7]).cells.length := by show j % 7 < 7; omega
      have hg2 := expCells_get l (j / 7) _ hx (j % 7) _ (List.getElem?_eq_getElem hcl)
      rw [show j / 7 * 7 + j % 7 = j by omega, hu] at hg2
      have h4 := hc (j / 7) _ hx (j % 7) _ (List.getElem?_eq_getElem hcl)
      have e1 : (⟨b, off, none⟩ : Addr).add j = ⟨b, off + j, none⟩ := by unfold Addr.add; split <;> simp_all
      rw [e1, show off + j = off + j / 7 * 7 + j % 7 by omega, h4]
      exact hg2.symm
    · obtain ⟨x, _, hx⟩ := List.mem_flatMap.1 hu
      simp [Exp.cells] at hx
      rcases hx with rfl | rfl | rfl | rfl | rfl | rfl | rfl <;> rfl
theorem un_exps : Tryz.prog.underlying 30 = some (.slice (Tryz.prog.elem 30)) := by kernel_rfl
theorem sz_exp (w : World) : (sizeOf (Tryz.prog.elem 30)).run Tryz.prog w = .ok 7 w := by kernel_rfl
/-- What a call of Sorted brings about. -/
def SortEnd (W : World) (ys : List Exp) (e : Ending) (w' : World) : Prop :=
  ∃ v, e = .returned v ∧ w'.ownsRow W.heap.size 25 7 v ys.length (expCells ys) ∧ Below W.heap.size W w'
/-- Both halves are sorted. -/
def HalvesR (W : World) (xs ys : List Exp) (v3 v4 : Value) (wx : World) : Prop :=
  Below W.heap.size W wx ∧ wx.ownsRow W.heap.size 25 7 v3 xs.length (expCells xs) ∧ wx.ownsRow W.heap.size 25 7 v4 ys.length (expCells ys) ∧ Apart v3 v4
/-- What is still to be merged. -/
def MergeR (W : World) (tot : Nat) (ys : List Exp) (v3 v4 v5 : Value) (wr : World) : Prop :=
  ∃ xs zs os, ES wr v3 xs ∧ ES wr v4 zs ∧ wr.ownsRow W.heap.size 25 7 v5 os.length (expCells os) ∧ (∀ k, inBlk v3 k → v5.ownBlock ≠ some k) ∧ (∀ k, inBlk v4 k → v5.ownBlock ≠ some k) ∧
    Below W.heap.size W wr ∧ os ++ List.merge xs zs nameLe = ys ∧ xs.length + zs.length + os.length = tot
/-- One export more, of either side. -/
theorem MergeR.step {W wr w' : World} {tot : Nat} {ys xs zs os : List Exp} {v3 v4 v5 v5' u3 u4 : Value} {x : Exp} (h3 : ES wr v3 xs) (h4 : ES wr v4 zs) (h5 : wr.ownsRow W.heap.size 25 7 v5 os.length (expCells os))
    (n3 : ∀ k, inBlk v3 k → v5.ownBlock ≠ some k) (n4 : ∀ k, inBlk v4 k → v5.ownBlock ≠ some k) (hb : Below W.heap.size W wr) (hg : Grew wr w' v5 v5') (ho : w'.ownsRow W.heap.size 25 7 v5' (os ++ [x]).length (expCells (os ++ [x])))
    {xs' zs' : List Exp} (e3 : ∀ V, ES V v3 xs → ES V u3 xs') (e4 : ∀ V, ES V v4 zs → ES V u4 zs') (b3 : ∀ k, inBlk u3 k → inBlk v3 k) (b4 : ∀ k, inBlk u4 k → inBlk v4 k)
    (hm : (os ++ [x]) ++ List.merge xs' zs' nameLe = ys) (ht : xs'.length + zs'.length + (os ++ [x]).length = tot) : MergeR W tot ys u3 u4 v5' w' := by
  have h3' : ES w' v3 xs := h3.of_block (fun k hk hlt => hg.block hlt (n3 k hk))
  have h4' : ES w' v4 zs := h4.of_block (fun k hk hlt => hg.block hlt (n4 k hk))
  have nn : ∀ k, k < wr.heap.size → v5.ownBlock ≠ some k → v5'.ownBlock ≠ some k := fun k hk hn e => by
    rcases hg.lies with h1 | ⟨j, h1, h2⟩
    · exact hn (h1.symm.trans e)
    · rw [h1] at e; cases e; omega
  refine ⟨xs', zs', os ++ [x], e3 _ h3', e4 _ h4', ho, fun k hk => nn k (h3.lt (b3 k hk)) (n3 k (b3 k hk)), fun k hk => nn k (h4.lt (b4 k hk)) (n4 k (b4 k hk)), ?_, hm, ht⟩
  exact hb.trans (hg.below (B := W.heap.size) hb.size (fun k e => (World.ownsRow.lt h5 k e).1))
theorem halves_ab {W w1 w2 : World} {ya yb : List Exp} {va vb : Value} {B : Nat} (oa : w1.ownsRow B 25 7 va ya.length (expCells ya)) (b1 : Below W.heap.size W w1) (ob : w2.ownsRow w1.heap.size 25 7 vb yb.length (expCells yb)) (b2 : Below w1.heap.size w1 w2) (hB : W.heap.size = B := by rfl) : HalvesR W ya yb va vb w2 := by
  subst hB
  exact ⟨b1.trans (b2.mono b1.size), ownsRow_below oa b2, ownsRow_base ob b1.size, fun k hk e => by
    have h1 := (World.ownsRow.lt oa k hk).2
    have h2 := (World.ownsRow.lt ob k e).1
    omega⟩
theorem halves_ba {W w1 w2 : World} {ya yb : List Exp} {va vb : Value} {B : Nat} (ob : w1.ownsRow B 25 7 vb yb.length (expCells yb)) (b1 : Below W.heap.size W w1) (oa : w2.ownsRow w1.heap.size 25 7 va ya.length (expCells ya)) (b2 : Below w1.heap.size w1 w2) (hB : W.heap.size = B := by rfl) : HalvesR W ya yb va vb w2 := by
  subst hB
  exact ⟨b1.trans (b2.mono b1.size), ownsRow_base oa b1.size, ownsRow_below ob b2, fun k hk e => by
    have h1 := (World.ownsRow.lt ob k e).2
    have h2 := (World.ownsRow.lt oa k hk).1
    omega⟩
theorem ES.head {w : World} {a : Option Addr} {n cap : Nat} {x : Exp} {l : List Exp} (h : ES w (.slice a n cap) (x :: l)) :
    ∃ g off, a = some ⟨g, off, none⟩ ∧ w.cell? ⟨g, off, none⟩ = some (.string (mkS x.name)) ∧ w.cell? ⟨g, off + 1, none⟩ = some (.int .i64 x.kind) ∧ w.cell? ⟨g, off + 2, none⟩ = some (.bool x.weak) ∧ w.cell? ⟨g, off + 3, none⟩ = some (.int .u64 (x.value : Int)) ∧ w.cell? ⟨g, off + 4, none⟩ = some (.int .u64 (x.resolver : Int)) ∧ w.cell? ⟨g, off + 5, none⟩ = some (.int .u64 (x.ordinal : Int)) ∧ w.cell? ⟨g, off + 6, none⟩ = some (.string (mkS x.other)) := by
  obtain ⟨g, off, e, h0, h1, h2, h3, h4, h5, h6⟩ := h.at (k := 0) rfl
  simp only [Nat.zero_mul, Nat.add_zero] at h0 h1 h2 h3 h4 h5 h6
  exact ⟨g, off, e, h0, h1, h2, h3, h4, h5, h6⟩
end Go.Proofs.YthhjdkcnkdffcaaGreat

namespace Go.Proofs.YthhjdkcnkdffcaaGreat
set_option linter.unusedSimpArgs false
set_option linter.unusedVariables false
open Go.RowKit
/-- 'append' onto a slice of the call's own at a step of a region that draws its order. -/
theorem step_grew {P : Program} (w : World) {ops : Array Oper} {o : Oper} {a : Act} {K : Act → World → Prop} {Q : Exit → Act → World → Prop} {E : Prop} (hgd : o.guard = none) (s y : Operand) (t tx : TypeId)
    (ho : o.op = .call { callee := .builtin .append, args := #[s, y], argTypes := #[t, tx] })
    (base : Nat) (e : TypeId) (i : TypeInfo) (z : Value) (size bytes : Nat) (ht : P.underlying t = some (.slice e)) (hi : P.info? e = some i) (hz : i.zero = some z)
    (hsize : i.size = size) (hby : i.bytes = bytes) (hzs : z.cells.size = size)
    (v : Value) (n : Nat) (xs : List Value) (hsv : a.eval s = v) (hown : w.ownsRow base e size v n xs)
    (x : Value) (m : Nat) (news : List Value) (hx : a.eval y = x) (hs : Src P size tx x m news w)
    (h63 : n + m ≤ maxLen) (hbytes : (n + m) * bytes ≤ 140737488355328) (hbase : base ≤ w.heap.size)
    (h : ∀ v' w', w'.ownsRow base e size v' (n + m) (xs ++ news) → Grew w w' v v' → K (a.put o.dst v') w') : if Region.wanted o (yielded ops a.tmps) = true then Oper.wp P o a w K Q else E := by
  have hw : Region.wanted o (yielded ops a.tmps) = true := by simp [Region.wanted, hgd]
  rw [if_pos hw]
  obtain ⟨v', w', hr, h2, h3⟩ := run_append_grew w base t tx o.type e i z size bytes ht hi hz hsize hby hzs v n xs hown x m news hs h63 hbytes hbase
  unfold Oper.wp execOp
  simp only [ho, resolve, invoke, builtin, Sem.run_bind, Sem.run_pure, Result.andThen_ok, List.map_toArray, List.map_cons, List.map_nil, hsv, hx, hr]
  exact h v' w' h2 h3
theorem owns_drew {w : World} {base : Nat} {e : TypeId} {size : Nat} {v : Value} {n : Nat} {xs : List Value} (h : w.ownsRow base e size v n xs) : w.drew.ownsRow base e size v n xs := h
/-- Cells that were just laid, as what is appended; behind a draw. -/
theorem src_laidD {P : Program} (w : World) {size : Nat} {tx e' t : TypeId} (hk : P.underlying tx = some (.slice e')) (news : List Value) (m : Nat) (hl : news.length = m * size) (h1 : ∀ u ∈ news, u.oneCell' = true) (fr : Nat × Nat) {B : Nat} (hB : w.heap.size = B) :
    Src P size tx (.slice (some ⟨B, 0, none⟩) m m) m news (w.alloc (.cells news.toArray t fr)).drew := by
  subst hB
  refine Src.ofSlice _ hk _ m m news hl (fun j x hx => ?_) h1
  have ea : (⟨w.heap.size, 0, none⟩ : Addr).add j = ⟨w.heap.size, j, none⟩ := by unfold Addr.add; split <;> simp_all
  rw [ea]
  show (w.alloc (.cells news.toArray t fr)).cell? _ = _
  rw [cell_of_row _ _ j _ _ _ (heap_alloc_new w _)]
  simpa using hx
end Go.Proofs.YthhjdkcnkdffcaaGreat
