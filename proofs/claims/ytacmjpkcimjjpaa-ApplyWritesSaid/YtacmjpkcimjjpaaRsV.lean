/- The reference's Write into a space: the walk. -/
import Derived.Test.YtacmjpkcimjjpaaRsW
namespace Go.Proofs.Ytacmjpkcimjjpaa
set_option linter.unusedSimpArgs false
set_option linter.unusedVariables false
open Go.RowKit Go.Maps

def wrB (pgs : List Pg) (a : Nat) (l : List UInt8) (p : Int) : List Pg := if lookE pgs a l.length p = 0 then putB pgs a l else pgs

def RWriteEnd (n0 : Nat) (w : World) (r : Nat) (vA vB vP : Value) (a : Nat) (l : List UInt8) (p : Int) (pgs : List Pg) (e : Ending) (w' : World) : Prop :=
  e = .returned (.int .i64 (lookE pgs a l.length p)) ∧ RSp n0 w' r vA vB vP (wrB pgs a l p) ∧ SpF w w' pgs

/-- While bytes are written. -/
structure WrR (n0 : Nat) (w : World) (r : Nat) (vA vB vP v : Value) (a : Nat) (l : List UInt8) (pgs : List Pg) (n : Nat) (wr : World) : Prop where
  sp : RSp n0 wr r vA vB vP (putB pgs a (l.take n))
  bs : BS wr v l
  fr : SpF w wr pgs

theorem WrR.next {n0 : Nat} {w wr W' : World} {r : Nat} {vA vB vP v : Value} {a : Nat} {l : List UInt8} {pgs : List Pg} {n : Nat} {x : UInt8} {q : Pg} (h : WrR n0 w r vA vB vP v a l pgs n wr) (hx : l[n]? = some x) (hq : pgAt (putB pgs a (l.take n)) ((a + n) / 4096) = some q)
    (hap : ∀ g ∈ pgs, ¬ inBlk v g.blk) (hW : W'.heap = (wr.setCell ⟨q.blk, (a + n) % 4096, none⟩ (.int .u8 (x.toNat : Int))).heap) (ho : W'.os = wr.os) (ht : W'.tape = wr.tape) (hu : W'.output = wr.output) : WrR n0 w r vA vB vP v a l pgs (n + 1) W' := by
  have hn : n < l.length := (List.getElem?_eq_some_iff.1 hx).1
  have hl : (l.take n).length = n := by rw [List.length_take]; omega
  obtain ⟨hqm, -⟩ := pgAt_mem hq
  obtain ⟨g, hg, he⟩ := mem_keys (putB_keys (l.take n) pgs a).symm hqm
  have heb : g.blk = q.blk := congrArg (fun x : Nat × Int × Nat => x.2.2) he
  have h1 := h.sp.set (x := x) hq (show (a + n) % 4096 < 4096 by omega)
  have hheap : ∀ k : Nat, W'.heap[k]? = (wr.setCell ⟨q.blk, (a + n) % 4096, none⟩ (.int .u8 (x.toNat : Int))).heap[k]? := fun k => by rw [hW]
  have hother : ∀ k : Nat, k ≠ q.blk → W'.heap[k]? = wr.heap[k]? := fun k hk => by rw [hheap, heap_setCell_other _ _ k _ (by simpa using hk)]
  refine ⟨?_, h.bs.of_block (fun k hk hlt => hother k (fun e => hap g hg (by rw [heb, ← e]; exact hk))), ⟨ho.trans h.fr.os, ht.trans h.fr.tape, hu.trans h.fr.output, ?_, fun k hk hno => ?_⟩⟩
  · rw [List.take_add_one, hx, Option.toList_some, putB_snoc, hl]
    exact h1.same (fun k _ _ => hheap k)
  · rw [hW]; have := h.fr.size; simpa [World.setCell] using this
  · exact (hother k (fun e => hno g hg (heb.trans e.symm))).trans (h.fr.block k hk hno)

set_option maxHeartbeats 4000000 in
theorem rs_write (n0 : Nat) (w : World) (r : Nat) (vA vB vP v : Value) (pgs : List Pg) (h : RSp n0 w r vA vB vP pgs) (hl : pgs.length ≤ 8192) (hpr : ∀ g ∈ pgs, 0 ≤ g.prot ∧ g.prot ≤ 7) (a : Nat) (l : List UInt8) (p : Int) (hv : BS w v l) (ha : a < 2 ^ 64) (hz0 : 0 < l.length) (hz : l.length ≤ 33554432) (hp : 0 ≤ p ∧ p ≤ 7) (hap : ∀ g ∈ pgs, ¬ inBlk v g.blk) :
    Calls Try.prog 39 #[.pointer (some ⟨r, 0, none⟩), .int .u64 (a : Int), v, .int .i64 p] w (RWriteEnd n0 w r vA vB vP a l p pgs) := by
  obtain ⟨vp, vc, rfl⟩ := hv.form rfl
  obtain ⟨pa, ca, rfl⟩ := ownsRow_form h.a
  obtain ⟨pb, cb, rfl⟩ := ownsRow_form h.b
  obtain ⟨N, hN⟩ : ∃ N, N = pgs.length := ⟨_, rfl⟩
  obtain ⟨L, hL⟩ : ∃ L, L = l.length := ⟨_, rfl⟩
  have HL := rs_look n0 w r _ _ _ pgs h hl hpr a L p ha (by omega) (by omega) hp
  obtain ⟨R, hR⟩ : ∃ R, R = lookE pgs a L p := ⟨_, rfl⟩
  rw [← hR] at HL
  have HLK := hid HL
  have hwL : IntKind.u64.wrap (L : Int) = (L : Int) := IntWalk.u64_in _ (by omega)
  unfold RWriteEnd
  rw [← hL, ← hR]
  rw [← hL] at hv hap
  rw [← hN] at h ⊢
  have H := hid (And.intro h (And.intro hv (And.intro hR (And.intro hN (And.intro hL (And.intro hpr (And.intro hap hl)))))))
  have hLb : L ≤ 33554432 := by omega
  have hL0 : 0 < L := by omega
  clear h hv hR hN hL hpr hap HL hl hz hz0
  go_enter Try.func39, Try.ntmps39
  go_wp2_with fail
  refine HLK.out.mono ?_
  rintro e w1 ⟨rfl, rfl⟩
  by_cases h0 : R = 0
  · have hd : (R != 0) = false := by rw [h0]; rfl
    obtain ⟨h47, hin⟩ := lookE_has (pgs := pgs) (a := a) (z := L) (p := p) (by rw [← H.out.2.2.1, h0]; decide) hL0
    have HH := hid (And.intro h0 (And.intro h47 hin))
    clear h0 h47 hin
    go_wp2_with fail
    go_loopw [10] (fun i wr => ∃ n : Nat, n ≤ L ∧ i = .int .i64 (n : Int) ∧ WrR n0 w r (.slice pa N ca) (.slice pb N cb) vP (.slice vp L vc) a l pgs n wr) (fun i _ => L - (intOf i).toNat)
    case atStart => exact ⟨0, Nat.zero_le _, rfl, H.out.1, H.out.2.1, SpF.of_below (Below.refl _ _)⟩
    case round =>
      obtain ⟨n, hn, rfl, hw⟩ := hrel
      by_cases hlt : n < L
      · have hltz : decide ((n : Int) < (L : Int)) = true := by rw [decide_eq_true_eq]; omega
        have hltn : decide (n < L) = true := by rw [decide_eq_true_eq]; omega
        obtain ⟨P, hP⟩ : ∃ P, P = putB pgs a (l.take n) := ⟨_, rfl⟩
        obtain ⟨A, hA⟩ : ∃ A, A = a + n := ⟨_, rfl⟩
        have h47 := HH.out.2.1
        have hwn : IntKind.u64.wrap (n : Int) = (n : Int) := IntWalk.u64_in _ (by omega)
        have hwA : IntKind.u64.wrap ((a : Int) + (n : Int)) = (A : Int) := (IntWalk.u64_in _ (by omega)).trans (by omega)
        have hPk : P.map pgK = pgs.map pgK := by rw [hP]; exact putB_keys _ _ _
        have hPl : P.length = N := by have := congrArg List.length hPk; rw [H.out.2.2.2.1]; simpa using this
        have hsp := hw.sp
        rw [← hP] at hsp
        have hsm : (pgAt P (A / 4096)).isSome = true := by rw [pgAt_keys hPk]; exact HH.out.2.2 _ (by omega) (by omega)
        obtain ⟨q, hq⟩ := Option.isSome_iff_exists.1 hsm
        obtain ⟨i, hi, hm⟩ := has_some hq
        have hiN : i < N := by rw [← hPl]; exact (List.getElem?_eq_some_iff.1 hi).1
        have HA := hid (rs_has n0 wr r _ _ _ P hsp (by rw [hPl, H.out.2.2.2.1]; exact H.out.2.2.2.2.2.2.2) A (by omega))
        have hA1 := hsp.a
        have hB1 := hsp.b
        rw [hPl] at hA1 hB1
        obtain ⟨ga, rfl, -, -, hca⟩ := own_cell hA1 (by omega)
        obtain ⟨gb, rfl, -, -, hcb⟩ := own_cell hB1 (by omega)
        have ka := hca i (.int .u64 ((q.no * 4096 : Nat) : Int)) (by simp [atCells, hi])
        have kb := hcb i (.slice (some ⟨q.blk, 0, none⟩) 4096 4096) (by simp [bCells, hi])
        obtain ⟨Q, hQ⟩ : ∃ Q, Q = q.no * 4096 := ⟨_, rfl⟩
        rw [← hQ] at ka
        obtain ⟨off, hoff⟩ : ∃ off, off = A % 4096 := ⟨_, rfl⟩
        have hqn := (pgAt_mem hq).2
        have hwo : IntKind.u64.wrap ((A : Int) - (Q : Int)) = (off : Int) := (IntWalk.u64_in _ (by omega)).trans (by omega)
        have r0 : wr.cell? ⟨r, 0, none⟩ = some (.slice (some ⟨ga, 0, none⟩) N ca) := hsp.row.cell 0
        have r1 : wr.cell? ⟨r, 1, none⟩ = some (.slice (some ⟨gb, 0, none⟩) N cb) := hsp.row.cell 1
        obtain ⟨x, hx⟩ : ∃ x, l[n]? = some x := ⟨_, List.getElem?_eq_getElem (by rw [← H.out.2.2.2.2.1]; exact hlt)⟩
        obtain ⟨bb, bo, rfl, hbc⟩ := hw.bs.at hL0
        have kx := hbc n x hx
        obtain ⟨hqr, hql, -⟩ := hsp.pages q (pgAt_mem hq).1
        have ko : ∃ u, wr.cell? ⟨q.blk, off, none⟩ = some u := by
          rw [hqr.cell]
          exact ⟨_, Array.getElem?_eq_getElem (by simp [u8s, hql]; omega)⟩
        obtain ⟨u, ko⟩ := ko
        have fo := hqr.own off
        have hoff4 : off < 4096 := by omega
        have HW := hid (And.intro hw (And.intro hx (And.intro (by rw [hP, hA] at hq; exact hq) (And.intro hoff hA))))
        have HM := hid hm
        clear hw hx hq hsp hPk hPl hP hA1 hB1 hca hcb hi hm hqr hql hbc hqn hQ hoff hsm hA h47
        go_wp2_with fail
        refine HA.out.mono ?_
        rintro e w1 ⟨rfl, rfl⟩
        rw [HM.out]
        go_wp2_with fail
        go_region
        go_wp2_with fail
        go_roundw
        case rel =>
          obtain ⟨w1, w2, w3, w4, w5⟩ := HW.out
          refine ⟨n + 1, by omega, by go_num, w1.next w2 w3 H.out.2.2.2.2.2.2.1 ?_ rfl rfl rfl⟩
          rw [← w5, ← w4]; rfl
        case measure => simp [intOf]; omega
      · have hltz : decide ((n : Int) < (L : Int)) = false := by rw [decide_eq_false_iff_not]; omega
        have hltn : decide (n < L) = false := by rw [decide_eq_false_iff_not]; omega
        have hnL : n = L := by omega
        have HW := hid (And.intro hw hnL)
        clear hw hnL
        go_wp2_with fail
        go_ret
        have h1 := HW.out.1.sp
        rw [HW.out.2, H.out.2.2.2.2.1, List.take_length] at h1
        refine ⟨by rw [HH.out.1]; rfl, ?_, HW.out.1.fr⟩
        unfold wrB
        rw [← H.out.2.2.2.2.1, if_pos (by rw [← H.out.2.2.1]; exact HH.out.1)]
        exact h1
  · have hd : (R != 0) = true := by rw [bne_iff_ne]; exact h0
    have HH := hid h0
    clear h0
    go_wp2_with fail
    go_ret
    refine ⟨rfl, ?_, SpF.of_below (Below.refl _ _)⟩
    unfold wrB
    rw [← H.out.2.2.2.2.1, if_neg (by rw [← H.out.2.2.1]; exact HH.out)]
    exact H.out.1
end Go.Proofs.Ytacmjpkcimjjpaa
