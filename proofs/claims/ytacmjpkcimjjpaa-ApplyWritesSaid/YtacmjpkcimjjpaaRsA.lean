/- The reference's space: its pages in memory; In, Has, Word. -/
import Derived.Test.YtacmjpkcimjjpaaSpZ
namespace Go.Proofs.Ytacmjpkcimjjpaa
set_option linter.unusedSimpArgs false
set_option linter.unusedVariables false
open Go.RowKit Go.Maps

def atCells (pgs : List Pg) : List Value := pgs.map fun g => .int .u64 ((g.no * 4096 : Nat) : Int)
def bCells (pgs : List Pg) : List Value := pgs.map fun g => .slice (some ⟨g.blk, 0, none⟩) 4096 4096
def pCells (pgs : List Pg) : List Value := pgs.map fun g => .int .i64 g.prot
theorem atCells_length (pgs : List Pg) : (atCells pgs).length = pgs.length := by simp [atCells]
theorem bCells_length (pgs : List Pg) : (bCells pgs).length = pgs.length := by simp [bCells]
theorem pCells_length (pgs : List Pg) : (pCells pgs).length = pgs.length := by simp [pCells]

/-- The reference's space in the block r has these pages, in rising order; n0: its blocks lie from here on. -/
structure RSp (n0 : Nat) (W : World) (r : Nat) (vA vB vP : Value) (pgs : List Pg) : Prop where
  row : RowAt W r 44 #[vA, vB, vP]
  a : W.ownsRow n0 22 1 vA pgs.length (atCells pgs)
  b : W.ownsRow n0 102 1 vB pgs.length (bCells pgs)
  p : W.ownsRow n0 3 1 vP pgs.length (pCells pgs)
  pages : ∀ g ∈ pgs, RowAt W g.blk 5 (u8s g.bytes).toArray ∧ g.bytes.length = 4096 ∧ g.no < 34359738368 ∧ n0 ≤ g.blk
  nos : pgs.Pairwise (fun x y => x.no < y.no)
  blks : pgs.Pairwise (fun x y => x.blk ≠ y.blk)
  ne : vA.ownBlock ≠ some r ∧ vB.ownBlock ≠ some r ∧ vP.ownBlock ≠ some r ∧ ∀ g ∈ pgs, g.blk ≠ r ∧ vA.ownBlock ≠ some g.blk ∧ vB.ownBlock ≠ some g.blk ∧ vP.ownBlock ≠ some g.blk
  lo : n0 ≤ r

theorem RSp.below {n0 : Nat} {W W' : World} {r : Nat} {vA vB vP : Value} {pgs : List Pg} (h : RSp n0 W r vA vB vP pgs) (hb : Below W.heap.size W W') : RSp n0 W' r vA vB vP pgs :=
  ⟨h.row.below hb, ownsRow_below h.a hb, ownsRow_below h.b hb, ownsRow_below h.p hb, fun g hg => ⟨(h.pages g hg).1.below hb, (h.pages g hg).2⟩, h.nos, h.blks, h.ne, h.lo⟩

/-- A world in which its blocks are as they were. -/
theorem RSp.same {n0 : Nat} {W W' : World} {r : Nat} {vA vB vP : Value} {pgs : List Pg} (h : RSp n0 W r vA vB vP pgs) (hk : ∀ k, n0 ≤ k → k < W.heap.size → W'.heap[k]? = W.heap[k]?) : RSp n0 W' r vA vB vP pgs :=
  ⟨(hk r h.lo h.row.lt).trans h.row, own_same h.a (fun k hk' => hk k (h.a.lt k hk').1 (h.a.lt k hk').2), own_same h.b (fun k hk' => hk k (h.b.lt k hk').1 (h.b.lt k hk').2), own_same h.p (fun k hk' => hk k (h.p.lt k hk').1 (h.p.lt k hk').2),
    fun g hg => ⟨(hk g.blk (h.pages g hg).2.2.2 (h.pages g hg).1.lt).trans (h.pages g hg).1, (h.pages g hg).2⟩, h.nos, h.blks, h.ne, h.lo⟩

/-- The cells of an owned slice. -/
theorem own_cell {W : World} {n0 : Nat} {e : TypeId} {p : Option Addr} {n cap : Nat} {xs : List Value} (h : W.ownsRow n0 e 1 (.slice p n cap) n xs) (hn : 0 < n) : ∃ g, p = some ⟨g, 0, none⟩ ∧ n0 ≤ g ∧ g < W.heap.size ∧ ∀ i x, xs[i]? = some x → W.cell? ⟨g, i, none⟩ = some x := by
  have hh := h
  rcases h.2 with ⟨he, hz⟩ | ⟨g, cap', cur, he, hg, hc, h1, h2, h3, h4⟩
  · omega
  · cases he
    refine ⟨g, rfl, hg, (Array.getElem?_eq_some_iff.1 hc).1, fun i x hx => ?_⟩
    have hi : i < n := by have := (List.getElem?_eq_some_iff.1 hx).1; have := h.1; omega
    have := hh.cellAt i (by rw [Nat.mul_one]; exact hi)
    rw [this, hx]

theorem RSp.aCell {n0 : Nat} {W : World} {r : Nat} {p : Option Addr} {n cap : Nat} {vB vP : Value} {pgs : List Pg} (h : RSp n0 W r (.slice p n cap) vB vP pgs) (hn : n = pgs.length) (h0 : 0 < n) : ∃ g, p = some ⟨g, 0, none⟩ ∧ ∀ i q, pgs[i]? = some q → W.cell? ⟨g, i, none⟩ = some (.int .u64 ((q.no * 4096 : Nat) : Int)) := by
  have ha := h.a
  rw [← hn] at ha
  obtain ⟨g, e, -, -, hc⟩ := own_cell ha h0
  exact ⟨g, e, fun i q hq => hc i _ (by simp [atCells, hq])⟩

/-- Where the page of a byte stands. -/
def hasM (pgs : List Pg) (a : Nat) : Int := match pgs.findIdx? (fun g => g.no == a / 4096) with | some i => (i : Int) | none => -1

set_option maxHeartbeats 400000 in
theorem rs_in (w : World) (a z : Nat) (ha : a < 2 ^ 64) (hz : z < 2 ^ 64) : Calls Try.prog 36 #[.int .u64 (a : Int), .int .u64 (z : Int)] w fun e w' => e = .returned (.bool (inB a z)) ∧ w = w' := by
  by_cases h1 : a ≤ 140737488355328
  · have hd1 : decide ((a : Int) ≤ 140737488355328) = true := by rw [decide_eq_true_eq]; omega
    have hw : IntKind.u64.wrap (140737488355328 - (a : Int)) = 140737488355328 - (a : Int) := IntWalk.u64_in _ (by omega)
    obtain ⟨R, hR⟩ : ∃ R, R = inB a z := ⟨_, rfl⟩
    have hd2 : decide ((z : Int) ≤ 140737488355328 - (a : Int)) = R := by
      rw [hR]; unfold inB
      rw [show decide (a ≤ 140737488355328) = true from by rw [decide_eq_true_eq]; exact h1, Bool.true_and, Bool.eq_iff_iff, decide_eq_true_eq, decide_eq_true_eq]; omega
    rw [← hR]
    clear hR h1
    go_enter Try.func36, Try.ntmps36
    go_wp2
    go_ret
    exact ⟨rfl, rfl⟩
  · have hd1 : decide ((a : Int) ≤ 140737488355328) = false := by rw [decide_eq_false_iff_not]; omega
    have hr : inB a z = false := by unfold inB; rw [show decide (a ≤ 140737488355328) = false from by rw [decide_eq_false_iff_not]; exact h1]; rfl
    rw [hr]
    clear h1 hr
    go_enter Try.func36, Try.ntmps36
    go_wp2
    go_ret
    exact ⟨rfl, rfl⟩

theorem findIdx_take {pgs : List Pg} {p : Pg → Bool} {i : Nat} {q : Pg} (h : ∀ x ∈ pgs.take i, p x = false) (hq : pgs[i]? = some q) (hp : p q = true) : pgs.findIdx? p = some i := by
  obtain ⟨hi, rfl⟩ := List.getElem?_eq_some_iff.1 hq
  rw [List.findIdx?_eq_some_iff_getElem]
  refine ⟨hi, hp, fun j hj => ?_⟩
  have : pgs[j] ∈ pgs.take i := List.mem_take_iff_getElem.2 ⟨j, by omega, rfl⟩
  simpa using h _ this

set_option maxHeartbeats 1000000 in
theorem rs_has (n0 : Nat) (w : World) (r : Nat) (vA vB vP : Value) (pgs : List Pg) (h : RSp n0 w r vA vB vP pgs) (hl : pgs.length ≤ 8192) (a : Nat) (ha : a < 2 ^ 64) :
    Calls Try.prog 53 #[.pointer (some ⟨r, 0, none⟩), .int .u64 (a : Int)] w fun e w' => e = .returned (.int .i64 (hasM pgs a)) ∧ w = w' := by
  obtain ⟨p, cap, rfl⟩ := ownsRow_form h.a
  obtain ⟨n, hn⟩ : ∃ n, n = pgs.length := ⟨_, rfl⟩
  rw [← hn] at h hl
  have c0 : w.cell? ⟨r, 0, none⟩ = some (.slice p n cap) := h.row.cell 0
  obtain ⟨R, hR⟩ : ∃ R, R = hasM pgs a := ⟨_, rfl⟩
  rw [← hR]
  have H := hid (And.intro h (And.intro hn hR))
  clear h hn hR
  go_enter Try.func53, Try.ntmps53
  go_wp2_with fail
  go_loop [5] (fun i => ∃ k : Nat, k ≤ n ∧ i = .int .i64 (k : Int) ∧ ∀ x ∈ pgs.take k, (x.no == a / 4096) = false) (fun i => n - (intOf i).toNat)
  case atStart => exact ⟨0, Nat.zero_le _, rfl, fun x hx => absurd hx (by simp)⟩
  case round =>
    obtain ⟨k, hk, rfl, hno⟩ := hrel
    have HN := hid hno
    clear hno
    by_cases hlt : k < n
    · have hltz : decide ((k : Int) < (n : Int)) = true := by rw [decide_eq_true_eq]; omega
      have hltz2 : decide (k < n) = true := by rw [decide_eq_true_eq]; omega
      obtain ⟨g, rfl, hcell⟩ := H.out.1.aCell H.out.2.1 (by omega)
      obtain ⟨q, hq⟩ : ∃ q, pgs[k]? = some q := ⟨_, List.getElem?_eq_getElem (by rw [← H.out.2.1]; exact hlt)⟩
      have c1 := hcell k q hq
      have hq35 := (H.out.1.pages q (List.mem_of_getElem? hq)).2.2.1
      obtain ⟨A, hA⟩ : ∃ A, A = q.no * 4096 := ⟨_, rfl⟩
      rw [← hA] at c1
      have HQ := hid (And.intro hq hA)
      by_cases h1 : A ≤ a
      · have hd1 : decide (A ≤ a) = true := by rw [decide_eq_true_eq]; exact h1
        have hd1z : decide ((A : Int) ≤ (a : Int)) = true := by rw [decide_eq_true_eq]; omega
        have hw : IntKind.u64.wrap ((a : Int) - (A : Int)) = ((a - A : Nat) : Int) := (IntWalk.u64_in _ (by omega)).trans (by omega)
        obtain ⟨D, hD⟩ : ∃ D, D = a - A := ⟨_, rfl⟩
        rw [← hD] at hw
        by_cases h2 : D < 4096
        · have hd2 : decide ((D : Int) < 4096) = true := by rw [decide_eq_true_eq]; omega
          have hd2n : decide (D < 4096) = true := by rw [decide_eq_true_eq]; omega
          have hres : R = (k : Int) := by
            rw [H.out.2.2]
            unfold hasM
            rw [findIdx_take HN.out hq (by rw [beq_iff_eq]; omega)]
          have HR := hid hres
          clear hcell hq hA h1 h2 hD hres hq35
          go_wp2_with fail
          go_ret
          rw [HR.out]
          exact ⟨rfl, rfl⟩
        · have hd2 : decide ((D : Int) < 4096) = false := by rw [decide_eq_false_iff_not]; omega
          have hd2n : decide (D < 4096) = false := by rw [decide_eq_false_iff_not]; omega
          have hne : (q.no == a / 4096) = false := by rw [beq_eq_false_iff_ne]; omega
          have HR := hid hne
          clear hcell hq hA h1 h2 hD hne hq35
          go_wp2_with fail
          go_round
          case rel => exact ⟨k + 1, by omega, by go_num, fun x hx => by rw [List.take_add_one, HQ.out.1] at hx; rcases List.mem_append.1 hx with hx | hx; exact HN.out x hx; simp at hx; subst hx; exact HR.out⟩
          case measure => simp [intOf]; omega
      · have hd1 : decide (A ≤ a) = false := by rw [decide_eq_false_iff_not]; exact h1
        have hd1z : decide ((A : Int) ≤ (a : Int)) = false := by rw [decide_eq_false_iff_not]; omega
        have hne : (q.no == a / 4096) = false := by rw [beq_eq_false_iff_ne]; omega
        have HR := hid hne
        clear hcell hq hA h1 hne hq35
        go_wp2_with fail
        go_round
        case rel => exact ⟨k + 1, by omega, by go_num, fun x hx => by rw [List.take_add_one, HQ.out.1] at hx; rcases List.mem_append.1 hx with hx | hx; exact HN.out x hx; simp at hx; subst hx; exact HR.out⟩
        case measure => simp [intOf]; omega
    · have hltz : decide ((k : Int) < (n : Int)) = false := by rw [decide_eq_false_iff_not]; omega
      have hltz2 : decide (k < n) = false := by rw [decide_eq_false_iff_not]; omega
      have hres : R = -1 := by
        rw [H.out.2.2]
        unfold hasM
        have : pgs.findIdx? (fun g => g.no == a / 4096) = none := by
          rw [List.findIdx?_eq_none_iff]
          intro x hx
          have := HN.out x (by rw [List.take_of_length_le (by rw [← H.out.2.1]; omega)]; exact hx)
          exact this
        rw [this]
      have HR := hid hres
      clear hres
      go_wp2_with fail
      go_ret
      rw [HR.out]
      exact ⟨rfl, rfl⟩
end Go.Proofs.Ytacmjpkcimjjpaa
