/- Package space: Map. -/
import Derived.Test.YtacmjpkcimjjpaaSpF
namespace Go.Proofs.Ytacmjpkcimjjpaa
set_option linter.unusedSimpArgs false
set_option linter.unusedVariables false
open Go.RowKit Go.Maps

/-- The pages that Map adds. -/
structure NewPgs (w : World) (f k : Nat) (p : Int) (new : List Pg) : Prop where
  nos : new.map (·.no) = List.range' f k
  is : ∀ g ∈ new, g.prot = p ∧ g.bytes = List.replicate 4096 0 ∧ w.heap.size ≤ g.blk

/-- While pages are added. -/
def MapR (w : World) (s b : Nat) (pgs : List Pg) (p : Int) (f n : Nat) (wr : World) : Prop :=
  ∃ new, NewPgs w f (n - f) p new ∧ SpAt wr s b (pgs ++ new) ∧ w.grownBy wr (some b)

theorem zero4096 : Try.zeroCells99 = (u8s (List.replicate 4096 0)).toArray := by kernel_rfl

/-- A page is added. -/
theorem SpAt.add {w w1 w2 : World} {s b n : Nat} {pgs : List Pg} {p : Int} (h : SpAt w s b pgs) (hw1 : w1 = w.alloc (.cells Try.zeroCells99 99)) (hn : n < 2 ^ 64) (hfresh : ∀ g ∈ pgs, g.no ≠ n)
    (hm : w2.ownsMap Try.prog 22 pgElem b (pgs.length + 1) ((spD pgs).put (.int .u64 (n : Int)) (pageD w.heap.size p))) (hg : w1.grownBy w2 (some b)) :
    SpAt w2 s b (pgs ++ [⟨n, p, w.heap.size, List.replicate 4096 0⟩]) ∧ w.grownBy w2 (some b) := by
  have h1 : Below w.heap.size w w1 := by rw [hw1]; exact (Below.refl _ _).alloc (Nat.le_refl _) _
  have hk : SpAt w1 s b pgs := h.below h1
  have hs1 : w1.heap.size = w.heap.size + 1 := by rw [hw1]; simp
  have hnew : RowAt w1 w.heap.size 99 (u8s (List.replicate 4096 0)).toArray := by rw [hw1, ← zero4096]; exact heap_alloc_new _ _
  obtain ⟨l1, l2, l3⟩ := h.lt
  refine ⟨⟨hk.row.grown hg (fun e => hk.ne.1 (by cases e; rfl)), ?_, ?_, ?_, ?_, hk.ne.1, ?_⟩, ⟨hg.os.trans h1.os, hg.tape.trans h1.tape, hg.output.trans h1.output, Nat.le_trans h1.size hg.size, fun j hj hr => (hg.block j (Nat.lt_of_lt_of_le hj h1.size) hr).trans (h1.block j hj)⟩⟩
  · rw [spD_snoc, List.length_append]; exact hm
  · intro g hgm
    rcases List.mem_append.1 hgm with hgm | hgm
    · exact ⟨(hk.pages g hgm).1.grown hg (fun e => (hk.ne.2 g hgm).2 (by cases e; rfl)), (hk.pages g hgm).2⟩
    · rw [List.mem_singleton] at hgm
      subst hgm
      exact ⟨hnew.grown hg (fun e => by cases e; omega), List.length_replicate, hn⟩
  · rw [List.pairwise_append]
    refine ⟨h.nos, List.pairwise_singleton _ _, fun x hx y hy => ?_⟩
    rw [List.mem_singleton] at hy
    subst hy
    exact hfresh x hx
  · rw [List.pairwise_append]
    refine ⟨h.blks, List.pairwise_singleton _ _, fun x hx y hy => ?_⟩
    rw [List.mem_singleton] at hy
    subst hy
    exact Nat.ne_of_lt (l3 x hx)
  · intro g hgm
    rcases List.mem_append.1 hgm with hgm | hgm
    · exact hk.ne.2 g hgm
    · rw [List.mem_singleton] at hgm
      subst hgm
      exact ⟨Nat.ne_of_gt l1, Nat.ne_of_gt l2⟩

theorem NewPgs.next {w wr w1 w2 : World} {s b f n g : Nat} {pgs new : List Pg} {p : Int} (hnew : NewPgs w f (n - f) p new) (hsp : SpAt wr s b (pgs ++ new)) (hgr : w.grownBy wr (some b)) (hn : f ≤ n) (hng : n < g) (hg64 : g < 2 ^ 64) (hfr : freeB pgs f g = true)
    (hw1 : w1 = wr.alloc (.cells Try.zeroCells99 99))
    (hm : w2.ownsMap Try.prog 22 pgElem b ((pgs ++ new).length + 1) ((spD (pgs ++ new)).put (.int .u64 (n : Int)) (pageD wr.heap.size p))) (hg : w1.grownBy w2 (some b)) : MapR w s b pgs p f (n + 1) w2 := by
  have hfresh : ∀ q ∈ pgs ++ new, q.no ≠ n := by
    intro q hq e
    rcases List.mem_append.1 hq with hq | hq
    · unfold freeB at hfr
      rw [Bool.not_eq_true', List.any_eq_false] at hfr
      exact hfr q hq (by rw [e]; simp; exact ⟨hn, hng⟩)
    · have : q.no ∈ new.map (·.no) := List.mem_map.2 ⟨q, hq, rfl⟩
      rw [hnew.nos, List.mem_range'_1] at this
      omega
  obtain ⟨h1, h2⟩ := hsp.add hw1 (by omega) hfresh hm hg
  · refine ⟨new ++ [⟨n, p, wr.heap.size, List.replicate 4096 0⟩], ⟨?_, fun q hq => ?_⟩, by rw [← List.append_assoc]; exact h1, ⟨h2.os.trans hgr.os, h2.tape.trans hgr.tape, h2.output.trans hgr.output, Nat.le_trans hgr.size h2.size, fun j hj hr => (h2.block j (Nat.lt_of_lt_of_le hj hgr.size) hr).trans (hgr.block j hj hr)⟩⟩
    · rw [List.map_append, hnew.nos, show n + 1 - f = n - f + 1 from by omega, List.range'_concat, Nat.one_mul, show f + (n - f) = n from by omega]
      rfl
    · rcases List.mem_append.1 hq with hq | hq
      · exact hnew.is q hq
      · rw [List.mem_singleton] at hq
        subst hq
        exact ⟨rfl, rfl, hgr.size⟩

theorem map_some_nil (w : World) (b : Nat) : (binOp .eql 90 (.map (some b)) (.map none)).run Try.prog w = .ok (.bool false) w := by kernel_rfl

set_option maxRecDepth 6000 in
set_option maxHeartbeats 1000000 in
theorem sp_map (w : World) (s b a z : Nat) (p : Int) (pgs : List Pg) (h : SpAt w s b pgs) (ha : a % 4096 = 0) (hz : z % 4096 = 0) (hz0 : 0 < z) (hp : 1 ≤ p ∧ p ≤ 7) (hin : inB a z = true) (hfree : freeB pgs (a / 4096) ((a + z - 1) / 4096 + 1) = true) (hroom : z / 4096 + pgs.length ≤ 8192) :
    Calls Try.prog 11 #[.pointer (some ⟨s, 0, none⟩), .int .u64 (a : Int), .int .u64 (z : Int), .int .i64 p] w fun e w' => e = .returned (.int .i64 0) ∧ MapR w s b pgs p (a / 4096) (a / 4096 + z / 4096) w' := by
  have hle := inB_le hin
  obtain ⟨f, hf⟩ : ∃ f, f = a / 4096 := ⟨_, rfl⟩
  obtain ⟨k, hk⟩ : ∃ k, k = z / 4096 := ⟨_, rfl⟩
  obtain ⟨g, hgk⟩ : ∃ g, g = f + k := ⟨_, rfl⟩
  have hg : (a + z - 1) / 4096 + 1 = g := by omega
  have hd1 : (a : Int) % 4096 = 0 := by omega
  have hd2 : (z : Int) % 4096 = 0 := by omega
  have hd3 : ((z : Int) == 0) = false := by rw [beq_eq_false_iff_ne]; omega
  have hd4 : decide (p < 1) = false := by rw [decide_eq_false_iff_not]; omega
  have hd5 : decide (7 < p) = false := by rw [decide_eq_false_iff_not]; omega
  have HF := hid (sp_free w s b a z pgs h (by omega) hz0 hin (by omega))
  have HN := hid (fun w => sp_numbers w a z hz0 hle)
  have HI := hid (fun w => sp_in w a z (by omega) (by omega))
  have Hin := hid hin
  rw [hg, ← hf] at HN
  rw [hg, ← hf] at HF hfree
  rw [← hf, ← hk, ← hgk]
  have Hfr := hid hfree
  have H := hid h
  have Hk := hid (And.intro hk (And.intro hroom (And.intro hle (And.intro hgk hf))))
  clear h hgk hf hg hin hle hz0 hfree hk hroom ha hz hp
  go_enter Try.func11, Try.ntmps11
  go_wp2_with fail
  refine (HI.out w).mono ?_
  rintro e w1 ⟨rfl, rfl⟩
  rw [Hin.out]
  go_wp2_with fail
  refine HF.out.mono ?_
  rintro e w1 ⟨rfl, hb1⟩
  have H1 := hid (H.out.below hb1)
  have Hb1 := hid hb1
  clear hb1
  rw [Hfr.out]
  have c0 : w1.cell? ⟨s, 0, none⟩ = some (.map (some b)) := H1.out.row.cell 0
  have hq : (z : Int) / 4096 = (k : Int) := by have := Hk.out; omega
  have hq2 : Int.tdiv (z : Int) 4096 = (k : Int) := by rw [Int.tdiv_eq_ediv_of_nonneg (by omega)]; exact hq
  obtain ⟨N, hN⟩ : ∃ N, N = Maps.size (spD pgs) := ⟨_, rfl⟩
  have hNle : N ≤ pgs.length := by rw [hN]; exact H.out.map.size_le
  have hw : IntKind.i64.wrap (8192 - (N : Int)) = 8192 - (N : Int) := IntWalk.i64_in _ (by have := Hk.out; omega)
  have hw2 : IntKind.u64.wrap (8192 - (N : Int)) = 8192 - (N : Int) := IntWalk.u64_in _ (by have := Hk.out; omega)
  have hw3 : IntKind.u64.wrap (k : Int) = (k : Int) := IntWalk.u64_in _ (by have := Hk.out; omega)
  have hd6 : decide (8192 - (N : Int) < (k : Int)) = false := by rw [decide_eq_false_iff_not]; have := Hk.out; omega
  have hmn := fun w => map_some_nil w b
  have HNN := hid (And.intro hN hNle)
  clear hN hNle
  go_wp2_with (at_len; go_loud (refine wpList_len_own _ rfl _ 90 rfl 22 101 Try.underlying90 _ b pgs.length (spD pgs) rfl H1.out.map ?_); rw [← HNN.out.1])
  refine (HN.out w1).mono ?_
  rintro e w2 ⟨rfl, rfl⟩
  have hst : MapR w s b pgs p f f w1 := ⟨[], ⟨by rw [Nat.sub_self]; rfl, fun g hg => by cases hg⟩, by rw [List.append_nil]; exact H1.out, ⟨Hb1.out.os, Hb1.out.tape, Hb1.out.output, Hb1.out.size, fun k hk _ => Hb1.out.block k hk⟩⟩
  have Hst := hid hst
  clear hst hq hq2 hw hw2 hw3 hd1 hd2 hd3 hd4 hd5 hd6
  have HW := hid (IntWalk.u64_in)
  go_wp2_with fail
  go_loopw [11] (fun i wr => ∃ n : Nat, f ≤ n ∧ n ≤ g ∧ i = .int .u64 (n : Int) ∧ MapR w s b pgs p f n wr) (fun i _ => g - (intOf i).toNat)
  case atStart => exact ⟨f, Nat.le_refl _, by have := Hk.out; omega, rfl, Hst.out⟩
  case round =>
    obtain ⟨n, hn1, hn2, rfl, hm⟩ := hrel
    have H2 := hid hm
    obtain ⟨new, hnew, hsp, hgr⟩ := hm
    have c1 : wr.cell? ⟨s, 0, none⟩ = some (.map (some b)) := hsp.row.cell 0
    have HS := hid (And.intro hnew (And.intro hsp hgr))
    clear hnew hsp hgr
    have HLN := hid (show (pgs ++ new).length < maxLen from by have := congrArg List.length HS.out.1.nos; simp at this; have := Hk.out; simp [maxLen]; omega)
    have HG64 := hid (show g < 2 ^ 64 from by have := Hk.out; omega)
    have HN64 := hid (show n < 2 ^ 64 from by have := Hk.out; omega)
    by_cases hlt : n < g
    · have hltz : decide ((n : Int) < (g : Int)) = true := by rw [decide_eq_true_eq]; omega
      clear H2
      go_wp2_with (at_mapUpdate; go_loud (refine wpList_mapUpdate_own _ rfl _ _ _ 90 rfl 22 101 lawU64 Try.underlying90 _ b (pgs ++ new).length (spD (pgs ++ new)) rfl (HS.out.2.1.map.alloc _) HLN.out _ _ (.int .u64 (n : Int)) rfl rfl (keyU64 HN64.out) (pageD wr.heap.size p) [] (pgElem_mk _ _) ?_); intro w2 hown2 hgr2)
      have hwr : IntKind.u64.wrap ((n : Int) + 1) = ((n + 1 : Nat) : Int) := IntWalk.u64_in _ (by have := HG64.out; omega)
      go_roundw
      case rel => exact ⟨n + 1, by omega, by omega, by rw [hwr], HS.out.1.next HS.out.2.1 HS.out.2.2 hn1 hlt HG64.out Hfr.out rfl hown2 hgr2⟩
      case measure => rw [hwr]; simp [intOf]; omega
    · have hltz : decide ((n : Int) < (g : Int)) = false := by rw [decide_eq_false_iff_not]; omega
      have hng : n = g := by omega
      subst hng
      clear hn1 hn2 hlt
      go_wp2_with fail
      go_ret
      exact ⟨rfl, H2.out⟩
end Go.Proofs.Ytacmjpkcimjjpaa
