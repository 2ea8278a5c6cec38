/- Package space: put. -/
import Derived.Test.YtacmjpkcimjjpaaSpL
import Derived.Laws.CopyOwn
namespace Go.Proofs.Ytacmjpkcimjjpaa
set_option linter.unusedSimpArgs false
set_option linter.unusedVariables false
open Go.RowKit Go.Maps

def spl (l : List UInt8) (off : Nat) (cs : List UInt8) : List UInt8 := l.take off ++ (cs ++ l.drop (off + cs.length))

theorem spl_length {l cs : List UInt8} {off : Nat} (h : off + cs.length ≤ l.length) : (spl l off cs).length = l.length := by unfold spl; simp; omega

/-- A page's bytes are written over. -/
def setPg (pgs : List Pg) (n off : Nat) (cs : List UInt8) : List Pg := pgs.map fun g => if g.no = n then { g with bytes := spl g.bytes off cs } else g

def pgK (g : Pg) : Nat × Int × Nat := (g.no, g.prot, g.blk)

theorem setPg_keys (pgs : List Pg) (n off : Nat) (cs : List UInt8) : (setPg pgs n off cs).map pgK = pgs.map pgK := by
  unfold setPg
  rw [List.map_map]
  refine List.map_congr_left fun g _ => ?_
  show pgK (if g.no = n then _ else g) = pgK g
  split <;> rfl

theorem spD_keys (pgs : List Pg) : spD pgs = (pgs.map pgK).foldl (fun D (k : Nat × Int × Nat) => D.put (.int .u64 (k.1 : Int)) (pageD k.2.2 k.2.1)) (.map []) := by
  unfold spD
  rw [List.foldl_map]
  rfl

theorem spD_congr {p q : List Pg} (h : p.map pgK = q.map pgK) : spD p = spD q := by rw [spD_keys, spD_keys, h]

theorem pairs_congr {p q : List Pg} (h : p.map pgK = q.map pgK) {R : Nat × Int × Nat → Nat × Int × Nat → Prop} (hp : p.Pairwise (fun x y => R (pgK x) (pgK y))) : q.Pairwise (fun x y => R (pgK x) (pgK y)) := by
  have := List.pairwise_map.2 hp
  rw [h] at this
  exact List.pairwise_map.1 this

theorem mem_keys {p q : List Pg} (h : p.map pgK = q.map pgK) {g : Pg} (hg : g ∈ q) : ∃ g' ∈ p, pgK g' = pgK g := by
  have : pgK g ∈ p.map pgK := by rw [h]; exact List.mem_map.2 ⟨g, hg, rfl⟩
  obtain ⟨g', h1, h2⟩ := List.mem_map.1 this
  exact ⟨g', h1, h2⟩

theorem pgAt_set (pgs : List Pg) (n off m : Nat) (cs : List UInt8) : pgAt (setPg pgs n off cs) m = (pgAt pgs m).map fun g => if g.no = n then { g with bytes := spl g.bytes off cs } else g := by
  unfold pgAt setPg
  rw [List.find?_map]
  congr 2
  funext g
  show ((if g.no = n then _ else g : Pg).no == m) = _
  split <;> rfl

theorem pgAt_keys {p q : List Pg} (h : p.map pgK = q.map pgK) (n : Nat) : (pgAt p n).isSome = (pgAt q n).isSome := by
  rw [← pgAt_any, ← pgAt_any]
  have e : ∀ l : List Pg, l.any (fun g => g.no == n) = (l.map pgK).any (fun k => k.1 == n) := fun l => by rw [List.any_map]; rfl
  rw [e, e, h]

theorem pw_inj {α β : Type} {f : α → β} : ∀ {l : List α}, l.Pairwise (fun x y => f x ≠ f y) → ∀ {x y : α}, x ∈ l → y ∈ l → f x = f y → x = y
  | [], _, x, y, hx, _, _ => by cases hx
  | a :: r, hp, x, y, hx, hy, e => by
    obtain ⟨h1, h2⟩ := List.pairwise_cons.1 hp
    rcases List.mem_cons.1 hx with ex | kx
    · rcases List.mem_cons.1 hy with ey | ky
      · rw [ex, ey]
      · exact (h1 y ky (by rw [← ex]; exact e)).elim
    · rcases List.mem_cons.1 hy with ey | ky
      · exact (h1 x kx (by rw [← ey]; exact e.symm)).elim
      · exact pw_inj h2 kx ky e

/-- What a block of the space keeps. -/
structure PutF (w w' : World) (pgs : List Pg) : Prop where
  os : w'.os = w.os
  tape : w'.tape = w.tape
  output : w'.output = w.output
  size : w'.heap.size = w.heap.size
  block : ∀ k, (∀ g ∈ pgs, g.blk ≠ k) → w'.heap[k]? = w.heap[k]?

theorem PutF.refl (w : World) (pgs : List Pg) : PutF w w pgs := ⟨rfl, rfl, rfl, rfl, fun _ _ => rfl⟩

theorem SpAt.set {w : World} {s b n off : Nat} {pgs : List Pg} {cs : List UInt8} {q : Pg} (h : SpAt w s b pgs) (hq : pgAt pgs n = some q) (hfit : off + cs.length ≤ 4096) :
    SpAt (w.setRow q.blk (u8s (spl q.bytes off cs)).toArray) s b (setPg pgs n off cs) ∧ PutF w (w.setRow q.blk (u8s (spl q.bytes off cs)).toArray) pgs := by
  obtain ⟨hqm, hqn⟩ := pgAt_mem hq
  have hg : w.grownBy (w.setRow q.blk (u8s (spl q.bytes off cs)).toArray) (some q.blk) := ⟨rfl, rfl, rfl, by simp, fun k _ hk => setRow_other w _ k _ (fun e => hk (by rw [e]))⟩
  have hk := setPg_keys pgs n off cs
  obtain ⟨hr, hl, hn⟩ := h.pages q hqm
  refine ⟨⟨h.row.grown hg (fun e => (h.ne.2 q hqm).1 (by cases e; rfl)), ?_, ?_, ?_, ?_, h.ne.1, ?_⟩, ⟨rfl, rfl, rfl, by simp, fun k hk => setRow_other w _ k _ (fun e => hk q hqm e.symm)⟩⟩
  · have := h.map.kept hg (fun e => (h.ne.2 q hqm).2 (by cases e; rfl))
    rw [spD_congr hk]
    have e : (setPg pgs n off cs).length = pgs.length := by unfold setPg; simp
    rw [e]; exact this
  · intro g hgm
    unfold setPg at hgm
    obtain ⟨g0, hg0, rfl⟩ := List.mem_map.1 hgm
    obtain ⟨hr0, hl0, hn0⟩ := h.pages g0 hg0
    by_cases he : g0.no = n
    · have hgq : g0 = q := pw_inj (f := fun g : Pg => g.no) h.nos hg0 hqm (he.trans hqn.symm)
      rw [if_pos he]
      subst hgq
      exact ⟨setRow_heap w _ _ _ _ _ hr, by rw [← hl]; exact spl_length (by rw [hl]; exact hfit), hn⟩
    · rw [if_neg he]
      refine ⟨hr0.grown hg (fun e => he ?_), hl0, hn0⟩
      rw [pw_inj (f := fun g : Pg => g.blk) h.blks hg0 hqm (Option.some.inj e)]
      exact hqn
  · exact pairs_congr (R := fun x y => x.1 ≠ y.1) hk.symm h.nos
  · exact pairs_congr (R := fun x y => x.2.2 ≠ y.2.2) hk.symm h.blks
  · intro g hgm
    obtain ⟨g', h1, h2⟩ := mem_keys hk.symm hgm
    have h3 : g'.blk = g.blk := congrArg (fun x : Nat × Int × Nat => x.2.2) h2
    rw [← h3]
    exact h.ne.2 g' h1

/-- What put writes. -/
def putM : Nat → List Pg → Nat → List UInt8 → List Pg
  | 0, pgs, _, _ => pgs
  | k + 1, pgs, a, l => if l.length = 0 then pgs else putM k (setPg pgs (a / 4096) (a % 4096) (l.take (min l.length (4096 - a % 4096)))) (a + min l.length (4096 - a % 4096)) (l.drop (min l.length (4096 - a % 4096)))

theorem putM_keys : ∀ (k : Nat) (pgs : List Pg) (a : Nat) (l : List UInt8), (putM k pgs a l).map pgK = pgs.map pgK
  | 0, pgs, a, l => rfl
  | k + 1, pgs, a, l => by
    unfold putM
    split
    · rfl
    · rw [putM_keys k, setPg_keys]

theorem putM_nil (k : Nat) (pgs : List Pg) (a : Nat) : putM k pgs a [] = pgs := by cases k <;> rfl
theorem putM_step {k : Nat} {pgs : List Pg} {a c : Nat} {l : List UInt8} (hl : 0 < l.length) (hc : c = min l.length (4096 - a % 4096)) : putM (k + 1) pgs a l = putM k (setPg pgs (a / 4096) (a % 4096) (l.take c)) (a + c) (l.drop c) := by
  rw [putM, if_neg (by omega), ← hc]

theorem field_page (w : World) (g : Nat) (p : Int) : (Instr.field 101 (.agg #[.pointer (some ⟨g, 0, none⟩), .int .i64 p]) 0).run Try.prog w = .ok (.pointer (some ⟨g, 0, none⟩)) w := by kernel_rfl
theorem field_prot (w : World) (g : Nat) (p : Int) : (Instr.field 101 (.agg #[.pointer (some ⟨g, 0, none⟩), .int .i64 p]) 1).run Try.prog w = .ok (.int .i64 p) w := by kernel_rfl

theorem sz_u8 (w : World) : (sizeOf (Try.prog.elem 102)).run Try.prog w = .ok 1 w := by kernel_rfl
theorem un_bs : Try.prog.underlying 102 = some (.slice (Try.prog.elem 102)) := by kernel_rfl
theorem un_bs8 : Try.prog.underlying 102 = some (.slice 5) := by kernel_rfl
theorem sz_info : (Try.prog.info? 5).map (·.size) = some 1 := by kernel_rfl
theorem sz_arr (w : World) : (sizeOf 5).run Try.prog w = .ok 1 w := by kernel_rfl
theorem un_arr : Try.prog.underlying 99 = some (.array 4096 5) := by kernel_rfl

theorem slice_arr (w : World) (g m : Nat) (k : IntKind) (hm : m < 4096) : (Instr.sliceAt 99 (.pointer (some ⟨g, 0, none⟩)) (some (.int k (m : Int))) none none).run Try.prog w = .ok (.slice (some ⟨g, m, none⟩) (4096 - m) (4096 - m)) w := by
  have h1 : (m : Int) ≤ ((4096 : Nat) : Int) := by omega
  have hb := run_sliceBound (P := Try.prog) (w := w) k (m : Int) 4096 .sliceB (by omega) h1
  rw [Int.toNat_natCast] at hb
  have hne : ¬ 4096 = m := by omega
  simp only [Instr.sliceAt, Instr.sureAddr, Instr.sliceBounds, Sem.run_bind, Sem.run_pure, Result.andThen_ok, run_underlying un_arr, hb, sz_arr, Addr.add, Option.isSome, Bool.false_eq_true, if_false, if_neg hne, Nat.mul_one, Nat.zero_add]
  by_cases h0 : m = 0
  · subst h0; rfl
  · simp [h0]

theorem slice_arr2 (w : World) (g m h : Nat) (k k' : IntKind) (hm : m < 4096) (hh : h ≤ 4096) (hmh : m ≤ h) : (Instr.sliceAt 99 (.pointer (some ⟨g, 0, none⟩)) (some (.int k (m : Int))) (some (.int k' (h : Int))) none).run Try.prog w = .ok (.slice (some ⟨g, m, none⟩) (h - m) (4096 - m)) w := by
  have h1 : (m : Int) ≤ (h : Int) := by omega
  have hb := run_sliceBound (P := Try.prog) (w := w) k (m : Int) h .sliceB (by omega) h1
  have hb2 := run_sliceBound (P := Try.prog) (w := w) k' (h : Int) 4096 .sliceAlen (by omega) (by omega)
  rw [Int.toNat_natCast] at hb hb2
  have hne : ¬ 4096 = m := by omega
  simp only [Instr.sliceAt, Instr.sureAddr, Instr.sliceBounds, Sem.run_bind, Sem.run_pure, Result.andThen_ok, run_underlying un_arr, hb, hb2, sz_arr, Addr.add, Option.isSome, Bool.false_eq_true, if_false, if_neg hne, Nat.mul_one, Nat.zero_add]
  by_cases h0 : m = 0
  · subst h0; rfl
  · simp [h0]

/-- While bytes are put. -/
structure PutR (w : World) (s b : Nat) (pgs T : List Pg) (t v : Value) (wr : World) : Prop where
  ex : ∃ (k a : Nat) (ps : List Pg) (l : List UInt8), t = .int .u64 (a : Int) ∧ BS wr v l ∧ l.length ≤ k ∧ putM k ps a l = T ∧ SpAt wr s b ps ∧ ps.map pgK = pgs.map pgK ∧ a + l.length ≤ 2 ^ 47 ∧
    (∀ n, a / 4096 ≤ n → 4096 * n < a + l.length → (pgAt pgs n).isSome = true) ∧ (∀ g ∈ pgs, ¬ inBlk v g.blk)
  frame : PutF w wr pgs

def PutEnd (w : World) (s b : Nat) (pgs T : List Pg) (e : Ending) (w' : World) : Prop :=
  e = .returned (.tuple #[]) ∧ SpAt w' s b T ∧ PutF w w' pgs

theorem u8s_splice (l cs : List UInt8) (off : Nat) : ((u8s l).toArray.toList.take off ++ (u8s cs ++ (u8s l).toArray.toList.drop (off + (u8s cs).length))).toArray = (u8s (spl l off cs)).toArray := by
  unfold u8s spl
  simp

set_option maxRecDepth 6000 in
set_option maxHeartbeats 1000000 in
theorem sp_put (w : World) (s b a : Nat) (v : Value) (l : List UInt8) (pgs : List Pg) (h : SpAt w s b pgs) (hv : BS w v l) (ha : a + l.length ≤ 2 ^ 47) (hin : ∀ n, a / 4096 ≤ n → 4096 * n < a + l.length → (pgAt pgs n).isSome = true) (hap : ∀ g ∈ pgs, ¬ inBlk v g.blk) :
    Calls Try.prog 64 #[.pointer (some ⟨s, 0, none⟩), .int .u64 (a : Int), v] w (PutEnd w s b pgs (putM l.length pgs a l)) := by
  have hst : PutR w s b pgs (putM l.length pgs a l) (.int .u64 (a : Int)) v w := ⟨⟨l.length, a, pgs, l, rfl, hv, Nat.le_refl _, rfl, h, rfl, ha, hin, hap⟩, PutF.refl _ _⟩
  have Hst := hid hst
  obtain ⟨T, hT⟩ : ∃ T, T = putM l.length pgs a l := ⟨_, rfl⟩
  rw [← hT] at Hst ⊢
  obtain ⟨p, cap, hvf⟩ := hv.form rfl
  rw [hvf] at Hst ⊢
  obtain ⟨L, hL⟩ : ∃ L, L = l.length := ⟨_, rfl⟩
  rw [← hL] at Hst ⊢
  clear hst hT h hv ha hin hap hL hvf
  go_enter Try.func64, Try.ntmps64
  go_wp2_with fail
  go_loopw [1, 2] (fun t v wr => PutR w s b pgs T t v wr) (fun _ v _ => slLen v)
  case atStart => exact Hst.out
  case round =>
    obtain ⟨⟨k, a, ps, l, rfl, hv, hk, hput, hsp, hkeys, ha, hin, hap⟩, hfr⟩ := hrel
    obtain ⟨p, cap, rfl⟩ := hv.form rfl
    have c0 : wr.cell? ⟨s, 0, none⟩ = some (.map (some b)) := hsp.row.cell 0
    obtain ⟨L, hL⟩ : ∃ L, L = l.length := ⟨_, rfl⟩
    have H := hid (And.intro hv (And.intro hk (And.intro hput (And.intro hsp (And.intro hkeys (And.intro ha (And.intro hin hap)))))))
    rw [← hL]
    by_cases h0 : 0 < L
    · have hd1 : decide ((0 : Int) < (L : Int)) = true := by rw [decide_eq_true_eq]; omega
      obtain ⟨f, hf⟩ : ∃ f, f = a / 4096 := ⟨_, rfl⟩
      obtain ⟨m, hm⟩ : ∃ m, m = a % 4096 := ⟨_, rfl⟩
      have hq1 : (a : Int) / 4096 = (f : Int) := by omega
      have hq2 : (a : Int) % 4096 = (m : Int) := by omega
      have hlk := hsp.look (n := f) (by omega)
      obtain ⟨q, hq⟩ : ∃ q, pgAt ps f = some q := by
        rw [← Option.isSome_iff_exists, pgAt_keys hkeys]
        exact hin f (by omega) (by omega)
      rw [hq] at hlk
      dsimp only [pageV] at hlk
      have hm4 : m < 4096 := by omega
      have hsl := fun w => slice_arr w q.blk m .u64 hm4
      have hfp := fun w => field_page w q.blk q.prot
      have hwf : IntKind.u64.wrap (f : Int) = (f : Int) := IntWalk.u64_in _ (by omega)
      have hwm : IntKind.u64.wrap (m : Int) = (m : Int) := IntWalk.u64_in _ (by omega)
      obtain ⟨bb, off, rfl, hcell⟩ := hv.at (by omega)
      obtain ⟨c, hc⟩ : ∃ c, c = min L (4096 - m) := ⟨_, rfl⟩
      have hcl : (u8s (l.take c)).length = c := by unfold u8s; simp; omega
      obtain ⟨hqm, hqn⟩ := pgAt_mem hq
      obtain ⟨hqr, hql, -⟩ := hsp.pages q hqm
      have hsrc : ∀ j x, (u8s (l.take c))[j]? = some x → wr.cell? ((⟨bb, off, none⟩ : Addr).add j) = some x := by
        intro j x hx
        unfold u8s at hx
        rw [List.getElem?_map, List.getElem?_take] at hx
        split at hx
        · obtain ⟨y, hy, rfl⟩ := Option.map_eq_some_iff.1 hx
          have := hcell j y hy
          unfold Addr.add
          split
          · rename_i e; subst e; simpa using this
          · exact this
        · cases hx
      have hcp := run_copy_row (P := Try.prog) wr 102 102 3 5 q.blk m (4096 - m) (4096 - m) ⟨bb, off, none⟩ L cap (u8s q.bytes).toArray 99 (u8s (l.take c)) un_bs8 sz_info hqr (by rw [hcl]; exact hc) hsrc (by rw [hcl]; unfold u8s; simp; omega) (by intro x hx; unfold u8s at hx; obtain ⟨y, _, rfl⟩ := List.mem_map.1 hx; rfl)
      rw [List.append_assoc, u8s_splice, hcl] at hcp
      obtain ⟨hsp2, hfr2⟩ := hsp.set (n := f) (off := m) (cs := l.take c) hq (by simp; omega)
      obtain ⟨W2, hW2⟩ : ∃ W2, W2 = wr.setRow q.blk (u8s (spl q.bytes m (l.take c))).toArray := ⟨_, rfl⟩
      rw [← hW2] at hcp hsp2 hfr2
      have hsb := fun w => run_subl (P := Try.prog) (w := w) (t := 102) (some ⟨bb, off, none⟩) L cap un_bs (sz_u8 w) .i64 (c : Int) (by omega) (by omega)
      simp only [Int.toNat_natCast] at hsb
      have hwc : IntKind.u64.wrap (c : Int) = (c : Int) := IntWalk.u64_in _ (by omega)
      have hwa : IntKind.u64.wrap ((a : Int) + (c : Int)) = (a : Int) + (c : Int) := IntWalk.u64_in _ (by omega)
      have HN : Hid (PutR w s b pgs T (.int .u64 ((a : Int) + (c : Int))) (.slice (subA (some ⟨bb, off, none⟩) c cap) (L - c) (cap - c)) W2 ∧ L - c < L) := by
        refine ⟨⟨⟨k - 1, a + c, setPg ps f m (l.take c), l.drop c, by rw [Int.natCast_add], ?_, by simp; omega, ?_, hsp2, (setPg_keys _ _ _ _).trans hkeys, by simp; omega, ?_, ?_⟩, ?_⟩, by omega⟩
        · have hv2 : BS W2 (.slice (some ⟨bb, off, none⟩) l.length cap) l := hv.of_block fun j hj _ => hfr2.block j fun g hg e => by
            obtain ⟨g', hg', e'⟩ := mem_keys hkeys.symm hg
            have : g'.blk = g.blk := congrArg (fun x : Nat × Int × Nat => x.2.2) e'
            exact hap g' hg' (by rw [this, e]; exact hj)
          rw [hL]
          exact drop_bs hv2 (by omega)
        · have hstep := putM_step (k := k - 1) (pgs := ps) (a := a) (c := c) (l := l) (by omega) (by rw [← hL, ← hm]; exact hc)
          rw [Nat.sub_add_cancel (by omega), ← hf, ← hm] at hstep
          exact hstep.symm.trans hput
        · intro n h1 h2
          rw [List.length_drop] at h2
          exact hin n (by omega) (by omega)
        · intro g hg hb
          refine hap g hg ?_
          rw [hL] at hb
          exact sub_blk (lo := c) (hi := l.length) (m := cap) (by omega) (Nat.le_refl _) hb
        · exact ⟨hfr2.os.trans hfr.os, hfr2.tape.trans hfr.tape, hfr2.output.trans hfr.output, hfr2.size.trans hfr.size, fun j hj => (hfr2.block j fun g hg e => by
            obtain ⟨g', hg', e'⟩ := mem_keys hkeys.symm hg
            have : g'.blk = g.blk := congrArg (fun x : Nat × Int × Nat => x.2.2) e'
            exact hj g' hg' (by rw [this, e])).trans (hfr.block j hj)⟩
      clear H hfr hv hk hput hsp hkeys ha hin hap hL hf hm hq hcell hcl hqm hqn hqr hql hsrc hsp2 hfr2 hW2 hc
      go_wp2_with fail
      go_roundw
      case rel => exact HN.out.1
      case measure => exact HN.out.2
    · have hd1 : decide ((0 : Int) < (L : Int)) = false := by rw [decide_eq_false_iff_not]; omega
      have HX := hid (show SpAt wr s b T from by
        rw [← hput, List.eq_nil_of_length_eq_zero (show l.length = 0 by omega), putM_nil]; exact hsp)
      have Hf := hid hfr
      clear hfr hv hk hput hsp hkeys ha hin hap hL
      go_wp2_with fail
      go_end0
      exact ⟨rfl, HX.out, Hf.out⟩
end Go.Proofs.Ytacmjpkcimjjpaa
