/- maps.Keys at the map of pages: its iterator's contract. -/
import Derived.Test.YtacmjpkcimjjpaaIt
import Derived.Test.YtacmjpkcimjjpaaSpQ
import Derived.Sort.MapsRangeIn
namespace Go.Proofs.Ytacmjpkcimjjpaa
set_option linter.unusedSimpArgs false
set_option linter.unusedVariables false
open Go.RowKit Go.Maps Go.Shelf

theorem ranges_kept {H : Type} {P : Program} {k : TypeId} {R : Value → Option (DataW H × List MemPlace)} {w w' : World} {b r n : Nat} {D : DataW H} {left : Lit → Bool} {cnt : Nat}
    (h : w.ranges P k R b r n D left cnt) (hb : w'.heap[b]? = w.heap[b]?) (hr : w'.heap[r]? = w.heap[r]?) : w'.ranges P k R b r n D left cnt := by
  obtain ⟨es, clock, since, seen, c0, h1, F, h2, h3, h4, rest⟩ := h
  exact ⟨es, clock, since, seen, c0, hb.trans h1, F, h2, h3, hr.trans h4, rest⟩

theorem ranges_map {H : Type} {P : Program} {k : TypeId} {R : Value → Option (DataW H × List MemPlace)} {w : World} {b r n : Nat} {D : DataW H} {left : Lit → Bool} {cnt : Nat}
    (h : w.ranges P k R b r n D left cnt) : b < w.heap.size ∧ r < w.heap.size := by
  obtain ⟨es, clock, since, seen, c0, h1, F, h2, h3, h4, rest⟩ := h
  exact ⟨(Array.getElem?_eq_some_iff.1 h1).1, (Array.getElem?_eq_some_iff.1 h4).1⟩

theorem nodup_le : ∀ {l m : List Nat}, l.Nodup → l ⊆ m → l.length ≤ m.length
  | [], m, _, _ => Nat.zero_le _
  | x :: r, m, h, hs => by
    obtain ⟨h1, h2⟩ := List.nodup_cons.1 h
    have hx : x ∈ m := hs (by simp)
    have := nodup_le (l := r) (m := m.erase x) h2 (fun y hy => (List.mem_erase_of_ne (fun e => h1 (by rw [← e]; exact hy))).2 (hs (by simp [hy])))
    rw [List.length_erase_of_mem hx] at this
    have := List.length_pos_of_mem hx
    simp only [List.length_cons]
    omega

/-- What has come of the keys. -/
structure Came (pgs : List Pg) (left : Lit → Bool) (ks : List Nat) : Prop where
  nodup : ks.Nodup
  sub : ∀ k ∈ ks, k ∈ pgs.map (·.no)
  left : ∀ n : Nat, left (.int .u64 (n : Int)) = (decide (n ∈ pgs.map (·.no)) && !decide (n ∈ ks))

theorem Came.start {pgs : List Pg} : Came pgs (Maps.has (spD pgs)) [] := by
  refine ⟨List.nodup_nil, fun k hk => (by cases hk), fun n => ?_⟩
  rw [spD_has, Bool.eq_iff_iff]
  simp

theorem Came.step {pgs : List Pg} {left : Lit → Bool} {ks : List Nat} {n : Nat} (h : Came pgs left ks) (hl : left (.int .u64 (n : Int)) = true) : Came pgs (fun z => left z && !z.sameKey (.int .u64 (n : Int))) (ks ++ [n]) := by
  rw [h.left] at hl
  simp at hl
  refine ⟨?_, ?_, fun m => ?_⟩
  · rw [List.nodup_append]
    refine ⟨h.nodup, by simp, fun x hx y hy e => ?_⟩
    simp at hy
    subst hy; subst e
    exact hl.2 hx
  · intro k hk
    rcases List.mem_append.1 hk with hk | hk
    · exact h.sub k hk
    · simp at hk; subst hk
      simpa using hl.1
  · by_cases e : m = n
    · subst e
      rw [WideAt.sameKey_self (isKeyU64 m)]
      simp
    · rw [sameKey_ne (fun he => e (by simp at he; omega)), h.left]
      simp [e]

theorem Came.perm {pgs : List Pg} {left : Lit → Bool} {ks : List Nat} (h : Came pgs left ks) (hp : pgs.Pairwise (fun x y => x.no ≠ y.no)) (hl : ∀ kl, left kl = false) : ks.Perm (pgs.map (·.no)) := by
  refine (List.perm_ext_iff_of_nodup h.nodup (List.pairwise_map.2 hp)).2 fun n => ⟨h.sub n, fun hn => ?_⟩
  have := h.left n
  rw [hl] at this
  simp only [hn, decide_true, Bool.true_and] at this
  simpa using this.symm

theorem Came.len {pgs : List Pg} {left : Lit → Bool} {ks : List Nat} (h : Came pgs left ks) {n : Nat} (hl : left (.int .u64 (n : Int)) = true) : ks.length < pgs.length := by
  rw [h.left] at hl
  simp at hl
  have h1 : (n :: ks).Nodup := List.nodup_cons.2 ⟨hl.2, h.nodup⟩
  have h2 : (n :: ks) ⊆ pgs.map (·.no) := by
    intro x hx
    rcases List.mem_cons.1 hx with rfl | hx
    · simpa using hl.1
    · exact h.sub x hx
  have := nodup_le h1 h2
  simp at this
  omega

def keysA (Bm b : Nat) (pgs : List Pg) (ob : Obj) (W : World) : Prop := W.heap[b]? = some ob ∧ W.cell? ⟨Bm, 0, none⟩ = some (.map (some b)) ∧ W.ownsMap Try.prog 22 pgElem b pgs.length (spD pgs)

set_option maxRecDepth 100000 in
set_option maxHeartbeats 1000000 in
theorem keys_seq (n : Nat) (Bm b : Nat) (pgs : List Pg) (ob : Obj) (hp : pgs.Pairwise (fun x y => x.no ≠ y.no)) :
    SeqM n Try.prog 72 #[.pointer (some ⟨Bm, 0, none⟩)] (fun x : Nat => #[.int .u64 (x : Int)]) (fun _ _ => False) (fun pre x _ _ => x ∈ pgs.map (·.no)) (fun xs W => xs.Perm (pgs.map (·.no)) ∧ W.heap[b]? = some ob) (fun _ _ => True) pgs.length (fun k => k = b) (keysA Bm b pgs ob) := by
  intro l J Jx W hA hJ hJx hY h0
  obtain ⟨hob, hm, hown⟩ := hA
  refine callsIn_of_wp Try.func72 rfl trivial ?_ rfl
  simp only [Try.ntmps72, List.size_toArray, List.length_cons, List.length_nil, Nat.reduceAdd, Nat.reduceSub, Array.replicate_succ, Array.replicate_zero, List.push_toArray, List.append_toArray, List.nil_append, List.cons_append]
  have HO := hid hown
  have HB := hid hob
  have HY := hid hY
  have H0 := hid h0
  clear hown hY h0 hob
  gi_wp2_with (gi_at_range; refine wpListIn_range_own _ rfl _ 90 rfl 22 101 lawU64 Try.underlying90 _ b pgs.length _ rfl HO.out ?_; intro w0 hrg0 hg0 hs0)
  have hcame := Came.start (pgs := pgs)
  have hJ0 : J [] (fun k => k = b ∨ (W.heap.size ≤ k ∧ k < w0.heap.size)) w0 := hJ _ _ _ _ _ H0.out (Its.of_grown hg0 (fun k e => by cases e))
  have hob0 : w0.heap[b]? = some ob := (hg0.block b (Array.getElem?_eq_some_iff.1 HB.out).1 (by simp)).trans HB.out
  have HX := hid (And.intro hrg0 (And.intro hcame (And.intro hJ0 (And.intro hs0 hob0))))
  clear hrg0 hcame hJ0 hg0 hs0 hob0
  gi_loopw [3] (fun _ wr => ∃ (left : Lit → Bool) (cnt : Nat) (ks : List Nat) (M : Nat → Prop), wr.ranges Try.prog 22 pgElem b W.heap.size pgs.length (spD pgs) left cnt ∧ Came pgs left ks ∧ J ks M wr ∧ M b ∧ M W.heap.size ∧ wr.heap[b]? = some ob ∧ b ≠ W.heap.size)
    (fun _ wr => wr.rangeLeft b W.heap.size)
  case atStart => exact ⟨_, _, [], _, HX.out.1, HX.out.2.1, HX.out.2.2.1, .inl rfl, .inr ⟨Nat.le_refl _, by rw [HX.out.2.2.2.1]; exact Nat.lt_succ_self _⟩, HX.out.2.2.2.2, Nat.ne_of_lt (Array.getElem?_eq_some_iff.1 HB.out).1⟩
  case round =>
    obtain ⟨left, cnt, ks, M, hrg, hC, hJs, hMb, hMr, hob, hbr⟩ := hrel
    have HR := hid (And.intro hrg (And.intro hC (And.intro hJs (And.intro hMb (And.intro hMr (And.intro hob hbr))))))
    clear hrg hC hJs hMb hMr hob hbr
    gi_wp2_with (gi_at_next; refine wpListIn_next_ranges _ rfl _ rfl 22 lawU64 pgElem (fun x : Int => Value.int .u64 x) pgO (fun key kl hkey => by obtain ⟨x, rfl, _⟩ := Maps.keyOf_int_inv Try.underlying22 hkey; exact ⟨x, rfl⟩) (fun v y hv => by rcases pgElem_inv hv with ⟨g1, p1, rfl, _⟩ | ⟨rfl, _⟩; exact ⟨some (g1, p1), rfl⟩; exact ⟨none, rfl⟩) b W.heap.size pgs.length (spD pgs) left cnt rfl HR.out.1 ?_ ?_)
    · intro hc0 hl0
      have HL := hid hl0
      clear hc0 hl0
      gi_wp2
      go_end0
      exact ⟨⟨_, rfl⟩, .inl ⟨ks, M, ⟨HR.out.2.1.perm hp HL.out, HR.out.2.2.2.2.2.1⟩, HR.out.2.2.1⟩⟩
    · intro x c kl yd yp w2 cnt1 hkey hlk hv hat hrg1 hlt hgr hsz hen
      obtain ⟨x', hx', rfl, hwf⟩ := Maps.keyOf_int_inv Try.underlying22 hkey
      cases hx'
      have hx0 : 0 ≤ x ∧ x ≤ 18446744073709551615 := by simpa [Lit.wf, IntKind.min, IntKind.max, IntKind.signed, IntKind.bits] using hwf
      obtain ⟨k, rfl⟩ : ∃ k : Nat, x = k := ⟨x.toNat, by omega⟩
      have hin : k ∈ pgs.map (·.no) := by
        have := HR.out.2.1.left k
        rw [hlk] at this
        simp at this
        simpa using this.1
      have hits : Its M M wr w2 := ⟨hgr.os, hgr.tape, hgr.output, hgr.size, fun j hj hn => hgr.block j hj (fun e => hn (by cases e; exact HR.out.2.2.2.2.1)), fun _ h => h, fun _ h => .inl h, fun hl j hj => Nat.lt_of_lt_of_le (hl j hj) hgr.size⟩
      obtain ⟨fn, tmps, assign, body, hy, hR⟩ := HY.out ks k M w2 (hJ _ _ _ _ _ HR.out.2.2.1 hits) hin (HR.out.2.1.len hlk)
      have hob2 : w2.heap[b]? = some ob := (hgr.block b (Array.getElem?_eq_some_iff.1 HR.out.2.2.2.2.2.1).1 (fun e => HR.out.2.2.2.2.2.2 (by cases e; rfl))).trans HR.out.2.2.2.2.2.1
      have HN := hid (And.intro hrg1 (And.intro hlt (And.intro (HR.out.2.1.step hlk) hob2)))
      have HRR := hid hR
      clear hkey hlk hv hat hrg1 hlt hgr hsz hwf hin hx0 hits hR hob2
      gi_wp2
      refine ⟨fun h => (by simp [Fence.wide] at h), ?_⟩
      refine HRR.out.mono ?_
      rintro e w3 (⟨rfl, hJ3, hk3⟩ | ⟨rfl, hJx3, hk3⟩)
      · have hrr := ranges_map HN.out.1
        have hrg3 := ranges_kept HN.out.1 (hk3.keep b hrr.1 ⟨HR.out.2.2.2.1, id⟩) (hk3.keep W.heap.size hrr.2 ⟨HR.out.2.2.2.2.1, id⟩)
        have hm3 : w3.rangeLeft b W.heap.size < wr.rangeLeft b W.heap.size := by rw [hrg3.left_eq, HR.out.1.left_eq]; exact HN.out.2.1
        have hob3 := (hk3.keep b hrr.1 ⟨HR.out.2.2.2.1, id⟩).trans HN.out.2.2.2
        have HZ := hid (And.intro hrg3 (And.intro hJ3 (And.intro hm3 hob3)))
        clear hrr hrg3 hm3 hJ3 hk3 hob3
        gi_wp2
        go_roundw
        case rel => exact ⟨_, cnt1, ks ++ [k], _, HZ.out.1, HN.out.2.2.1, HZ.out.2.1, ⟨HR.out.2.2.2.1, id⟩, ⟨HR.out.2.2.2.2.1, id⟩, HZ.out.2.2.2, HR.out.2.2.2.2.2.2⟩
        case measure => exact HZ.out.2.2.1
      · have HZ := hid hJx3
        clear hJx3 hk3
        gi_wp2
        refine bodyPost_ret (results_none rfl _ _ _) rfl ?_
        exact ⟨⟨_, rfl⟩, .inr ⟨ks ++ [k], _, trivial, HZ.out⟩⟩
end Go.Proofs.Ytacmjpkcimjjpaa
