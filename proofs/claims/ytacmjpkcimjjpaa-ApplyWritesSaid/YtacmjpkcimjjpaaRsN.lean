/- The reference's Map into an empty space: the walk. -/
import Derived.Test.YtacmjpkcimjjpaaRsM
import Derived.Laws.MakeOwn
namespace Go.Proofs.Ytacmjpkcimjjpaa
set_option linter.unusedSimpArgs false
set_option linter.unusedVariables false
open Go.RowKit Go.Maps

/-- 'append' onto a slice of the call's own at a step of a region that draws its order. -/
theorem step_grew {P : Program} (w : World) {ops : Array Oper} {o : Oper} {a : Act} {K : Act → World → Prop} {Q : Exit → Act → World → Prop} {E : Prop} (hgd : o.guard = none) (s y : Operand) (t tx : TypeId)
    (ho : o.op = .call { callee := .builtin .append, args := #[s, y], argTypes := #[t, tx] })
    (base : Nat) (e : TypeId) (i : TypeInfo) (z : Value) (size bytes : Nat) (ht : P.underlying t = some (.slice e)) (hi : P.info? e = some i) (hz : i.zero = some z)
    (hsize : i.size = size) (hby : i.bytes = bytes) (hzs : z.cells.size = size)
    (v : Value) (n : Nat) (xs : List Value) (hsv : a.eval s = v) (hown : w.ownsRow base e size v n xs)
    (x : Value) (m : Nat) (news : List Value) (hx : a.eval y = x) (hs : Src P size tx x m news w)
    (h63 : n + m ≤ maxLen) (hbytes : (n + m) * bytes ≤ 140737488355328) (hbase : base ≤ w.heap.size)
    (h : ∀ v' w', w'.ownsRow base e size v' (n + m) (xs ++ news) → Grew w w' v v' → K (a.put o.dst v') w') : if Region.wanted o (yielded ops a.tmps) = true then Oper.wp P o a w K Q else E := by
  have hw : Region.wanted o (yielded ops a.tmps) = true := by simp [Region.wanted, hgd]
  rw [if_pos hw]
  obtain ⟨v', w', hr, h2, h3⟩ := run_append_grew w base t tx o.type e i z size bytes ht hi hz hsize hby hzs v n xs hown x m news hs h63 hbytes hbase
  unfold Oper.wp execOp
  simp only [ho, resolve, invoke, builtin, Sem.run_bind, Sem.run_pure, Result.andThen_ok, List.map_toArray, List.map_cons, List.map_nil, hsv, hx, hr]
  exact h v' w' h2 h3

theorem owns_drew {w : World} {base : Nat} {e : TypeId} {size : Nat} {v : Value} {n : Nat} {xs : List Value} (h : w.ownsRow base e size v n xs) : w.drew.ownsRow base e size v n xs := h
/-- Cells that were just laid, as what is appended; behind a draw. -/
theorem src_laidD {P : Program} (w : World) {size : Nat} {tx e' t : TypeId} (hk : P.underlying tx = some (.slice e')) (news : List Value) (m : Nat) (hl : news.length = m * size) (h1 : ∀ u ∈ news, u.oneCell' = true) (fr : Nat × Nat) {B : Nat} (hB : w.heap.size = B) :
    Src P size tx (.slice (some ⟨B, 0, none⟩) m m) m news (w.alloc (.cells news.toArray t fr)).drew := by
  subst hB
  refine Src.ofSlice _ hk _ m m news hl (fun j x hx => ?_) h1
  have ea : (⟨w.heap.size, 0, none⟩ : Addr).add j = ⟨w.heap.size, j, none⟩ := by unfold Addr.add; split <;> simp_all
  rw [ea]
  show (w.alloc (.cells news.toArray t fr)).cell? _ = _
  rw [cell_of_row _ _ j _ _ _ (heap_alloc_new w _)]
  simpa using hx
theorem grew_drew {w w' : World} {v v' : Value} (h : Grew w.drew w' v v') : Grew w w' v v' := ⟨⟨h.by_.os, h.by_.tape, h.by_.output, h.by_.size, h.by_.block⟩, h.lies⟩

theorem Try.infoBs : (Try.prog.info? 102).map (fun i => (i.zero, i.size, i.bytes)) = some (some (.slice none 0 0), 1, 24) := by kernel_rfl
theorem Try.infoInt : (Try.prog.info? 3).map (fun i => (i.zero, i.size, i.bytes)) = some (some (.int .i64 0), 1, 8) := by kernel_rfl

def zeroPg : List UInt8 := List.replicate 4096 0
theorem made_n (n : Nat) : madeCells #[Value.int .u8 0] n = (u8s (List.replicate n 0)).toArray := by
  apply Array.ext
  · simp [madeCells, u8s]
  · intro i h1 h2
    simp [madeCells, u8s, Nat.mod_one]

theorem made_zero : madeCells (Value.int .u8 0).cells 4096 = (u8s zeroPg).toArray := made_n 4096

theorem make_page (w : World) : (Instr.makeSlice 102 (.int .i64 4096) (.int .i64 4096)).run Try.prog w = .ok (.slice (some ⟨w.heap.size, 0, none⟩) 4096 4096) (w.alloc (.cells (u8s zeroPg).toArray 5)) := by
  obtain ⟨i0, hi, hz0, hz1, hz2⟩ := info_parts Try.infoByte
  have := run_makeSlice (P := Try.prog) (w := w) 102 5 i0 (.int .u8 0) un_bs8 hi hz0 .i64 .i64 4096 4096 (by decide) (by decide) (by rw [hz1]; decide) (by rw [hz2]; decide) (by decide)
  rw [hz1] at this
  rw [← made_zero]
  exact this

set_option maxHeartbeats 400000 in
theorem rs_free0 (w : World) (r a z : Nat) (vB vP : Value) (h : RowAt w r 44 #[.slice none 0 0, vB, vP]) (ha : a < 2 ^ 64) (hz : z < 2 ^ 64) (hz0 : 0 < z) (hin : inB a z = true) :
    Calls Try.prog 37 #[.pointer (some ⟨r, 0, none⟩), .int .u64 (a : Int), .int .u64 (z : Int)] w fun e w' => e = .returned (.bool true) ∧ w = w' := by
  have c0 : w.cell? ⟨r, 0, none⟩ = some (.slice none 0 0) := h.cell 0
  have hd0 : ((z : Int) == 0) = false := by rw [beq_eq_false_iff_ne]; omega
  have HIN := hid (And.intro (rs_in w a z ha hz) hin)
  clear hin hz0
  go_enter Try.func37, Try.ntmps37
  go_wp2_with fail
  refine HIN.out.1.mono ?_
  rintro e w1 ⟨rfl, rfl⟩
  rw [HIN.out.2]
  go_wp2_with fail
  refine wp_loop_rounds 1 ?_; rw [rounds_succ]
  go_wp2_with fail
  go_ret
  exact ⟨rfl, rfl⟩

/-- While pages are laid. -/
def MpR (w : World) (o f : Nat) (p : Int) (j : Nat) (wr : World) : Prop :=
  ∃ vA vB vP new, RRaw w.heap.size wr o vA vB vP j j j (atCells new) (bCells new) (pCells new) (new.map (·.blk)) ∧ (∀ g ∈ new, RowAt wr g.blk 5 (u8s g.bytes).toArray ∧ g.prot = p ∧ g.bytes = zeroPg ∧ w.heap.size ≤ g.blk) ∧
    new.map (·.no) = List.range' f j ∧ new.Pairwise (fun x y => x.blk ≠ y.blk) ∧ Below w.heap.size w wr

/-- What the reference's Map leaves. -/
def RMapEnd (n0 : Nat) (w : World) (r f k : Nat) (p : Int) (e : Ending) (w' : World) : Prop :=
  e = .returned (.int .i64 0) ∧ ∃ vA vB vP new, RSp n0 w' r vA vB vP new ∧ new.map (·.no) = List.range' f k ∧ (∀ g ∈ new, g.prot = p ∧ g.bytes = zeroPg ∧ w.heap.size ≤ g.blk) ∧ w.grownBy w' (some r) ∧
    ∀ k, vA.ownBlock = some k ∨ vB.ownBlock = some k ∨ vP.ownBlock = some k → w.heap.size ≤ k

theorem zeroPg_length : zeroPg.length = 4096 := List.length_replicate ..

theorem rmap_fin {n0 : Nat} {w wr : World} {r o f k : Nat} {p : Int} {vA vB vP : Value} {new : List Pg} (h0 : RowAt w r 44 #[.slice none 0 0, .slice none 0 0, .slice none 0 0]) (hn : n0 ≤ r) (hbl : Below w.heap.size w wr)
    (hr : RRaw w.heap.size wr o vA vB vP k k k (atCells new) (bCells new) (pCells new) (new.map (·.blk))) (hpg : ∀ g ∈ new, RowAt wr g.blk 5 (u8s g.bytes).toArray ∧ g.prot = p ∧ g.bytes = zeroPg ∧ w.heap.size ≤ g.blk)
    (hno : new.map (·.no) = List.range' f k) (hfk : f + k ≤ 34359738368) (hbk : new.Pairwise (fun x y => x.blk ≠ y.blk)) :
    RMapEnd n0 w r f k p (.returned (.int .i64 0)) (((wr.setCell ⟨r, 0, none⟩ vA).setCell ⟨r, 1, none⟩ vB).setCell ⟨r, 2, none⟩ vP) := by
  have hrl := h0.lt
  have hlen : new.length = k := by have := congrArg List.length hno; simpa using this
  have hA : vA.ownBlock ≠ some r := fun e => by have := hr.a.lt r e; omega
  have hB : vB.ownBlock ≠ some r := fun e => by have := hr.b.lt r e; omega
  have hP : vP.ownBlock ≠ some r := fun e => by have := hr.p.lt r e; omega
  have h1 : RowAt wr r 44 #[.slice none 0 0, .slice none 0 0, .slice none 0 0] := h0.below hbl
  have hno' : ∀ g ∈ new, g.no < 34359738368 := fun g hg => by
    have : g.no ∈ List.range' f k := by rw [← hno]; exact List.mem_map.2 ⟨g, hg, rfl⟩
    rw [List.mem_range'_1] at this; omega
  have hpw : new.Pairwise (fun x y => x.no < y.no) := by
    have := List.pairwise_lt_range' (s := f) (n := k)
    rw [← hno] at this
    exact List.pairwise_map.1 this
  refine ⟨rfl, vA, vB, vP, new, ⟨((h1.same vA).same vB).same vP, ?_, ?_, ?_, ?_, hpw, hbk, ⟨hA, hB, hP, fun g hg => ?_⟩, hn⟩, hno, fun g hg => (hpg g hg).2, ⟨hbl.os, hbl.tape, hbl.output, by simp only [World.setCell, Array.size_modify]; exact hbl.size, fun j hj hne => ?_⟩, fun k hk => by
    rcases hk with hk | hk | hk
    · exact (hr.a.lt k hk).1
    · exact (hr.b.lt k hk).1
    · exact (hr.p.lt k hk).1⟩
  · rw [hlen]; exact ownsRow_base (ownsRow_setOther (ownsRow_setOther (ownsRow_setOther hr.a hA _) hA _) hA _) (by omega)
  · rw [hlen]; exact ownsRow_base (ownsRow_setOther (ownsRow_setOther (ownsRow_setOther hr.b hB _) hB _) hB _) (by omega)
  · rw [hlen]; exact ownsRow_base (ownsRow_setOther (ownsRow_setOther (ownsRow_setOther hr.p hP _) hP _) hP _) (by omega)
  · intro g hg
    obtain ⟨x1, x2, x3, x4⟩ := hpg g hg
    have hne : g.blk ≠ r := by omega
    exact ⟨((x1.other hne _).other hne _).other hne _, by rw [x3]; exact zeroPg_length, hno' g hg, by omega⟩
  · obtain ⟨f1, f2, f3, f4, f5⟩ := hr.far g.blk (List.mem_map.2 ⟨g, hg, rfl⟩)
    have := (hpg g hg).2.2.2
    exact ⟨by omega, f2, f3, f4⟩
  · have hjr : j ≠ r := fun e => hne (by rw [e])
    rw [Below.heap_setCell _ _ _ j hjr, Below.heap_setCell _ _ _ j hjr, Below.heap_setCell _ _ _ j hjr]
    exact hbl.block j hj

set_option maxRecDepth 10000 in
set_option maxHeartbeats 4000000 in
theorem rs_map0 (n0 : Nat) (w : World) (r a z : Nat) (p : Int) (h : RowAt w r 44 #[.slice none 0 0, .slice none 0 0, .slice none 0 0]) (hn : n0 ≤ r) (ha : a % 4096 = 0) (hz : z % 4096 = 0) (hz0 : 0 < z) (hzz : z ≤ 33554432) (hp : 1 ≤ p ∧ p ≤ 7) (hin : inB a z = true) :
    Calls Try.prog 12 #[.pointer (some ⟨r, 0, none⟩), .int .u64 (a : Int), .int .u64 (z : Int), .int .i64 p] w (RMapEnd n0 w r (a / 4096) (z / 4096) p) := by
  have hle := inB_le hin
  have hd1 : (a : Int) % 4096 = 0 := by omega
  have hd2 : (z : Int) % 4096 = 0 := by omega
  have hd3 : ((z : Int) == 0) = false := by rw [beq_eq_false_iff_ne]; omega
  have hd4 : decide (p < 1) = false := by rw [decide_eq_false_iff_not]; omega
  have hd5 : decide (7 < p) = false := by rw [decide_eq_false_iff_not]; omega
  obtain ⟨k, hk⟩ : ∃ k, k = z / 4096 := ⟨_, rfl⟩
  have hq : (z : Int) / 4096 = (k : Int) := by omega
  have hq2 : Int.tdiv (z : Int) 4096 = (k : Int) := by rw [Int.tdiv_eq_ediv_of_nonneg (by omega)]; exact hq
  have hw3 : IntKind.u64.wrap (k : Int) = (k : Int) := IntWalk.u64_in _ (by omega)
  have hd6 : decide (8192 < (k : Int)) = false := by rw [decide_eq_false_iff_not]; omega
  have c0 : w.cell? ⟨r, 0, none⟩ = some (.slice none 0 0) := h.cell 0
  have HI := hid (And.intro (rs_in w a z (by omega) (by omega)) hin)
  have HF := hid (rs_free0 w r a z _ _ h (by omega) (by omega) hz0 hin)
  have H := hid (And.intro h (And.intro hn (And.intro hk (And.intro hle hzz))))
  clear hin hle hk h hn
  go_enter Try.func12, Try.ntmps12
  go_wp2_with fail
  refine HI.out.1.mono ?_
  rintro e w1 ⟨rfl, rfl⟩
  rw [HI.out.2]
  go_wp2_with fail
  refine HF.out.mono ?_
  rintro e w1 ⟨rfl, rfl⟩
  go_wp2_with fail
  have hst : MpR w w.heap.size (a / 4096) p 0 (w.alloc (.cells #[.slice none 0 0, .slice none 0 0, .slice none 0 0] 44)) :=
    ⟨_, _, _, [], ⟨heap_alloc_new _ _, World.ownsRow_nil _ _ _ _, World.ownsRow_nil _ _ _ _, World.ownsRow_nil _ _ _ _, Apart.nil _, Apart.nil _, Apart.nil _, ⟨by simp [Value.ownBlock], by simp [Value.ownBlock], by simp [Value.ownBlock]⟩, fun k hk => absurd hk (by simp), Nat.le_refl _⟩, fun g hg => absurd hg (by simp), rfl, List.Pairwise.nil, (Below.refl _ _).alloc (Nat.le_refl _) _⟩
  obtain ⟨o, ho⟩ : ∃ o, o = w.heap.size := ⟨_, rfl⟩
  obtain ⟨W1, hW1⟩ : ∃ W1, W1 = w.alloc (.cells #[.slice none 0 0, .slice none 0 0, .slice none 0 0] 44) := ⟨_, rfl⟩
  have hr1 : RowAt W1 r 44 #[.slice none 0 0, .slice none 0 0, .slice none 0 0] := by rw [hW1]; exact H.out.1.below ((Below.refl _ _).alloc (Nat.le_refl _) _)
  rw [← ho, ← hW1] at hst ⊢
  have HST := hid (And.intro hst (And.intro ho hr1))
  have d0 : W1.cell? ⟨r, 0, none⟩ = some (.slice none 0 0) := hr1.cell 0
  clear hst hr1 hW1 ho hq hq2 hw3 hd6 c0 hd1 hd2 hd3 hd4 hd5
  refine wp_loop_rounds 2 ?_
  rw [rounds_succ]
  go_wp2_with fail
  go_loopw [12] (fun nv wr => ∃ j : Nat, j ≤ k ∧ nv = .int .u64 ((j * 4096 : Nat) : Int) ∧ MpR w o (a / 4096) p j wr) (fun nv _ => z - (intOf nv).toNat)
  case atStart => exact ⟨0, Nat.zero_le _, rfl, HST.out.1⟩
  case round =>
    obtain ⟨j, hj, rfl, vA, vB, vP, new, hr, hpg, hno, hbk, hbl⟩ := hrel
    obtain ⟨m, hm⟩ : ∃ m, m = j * 4096 := ⟨_, rfl⟩
    rw [← hm]
    have hzk : z = k * 4096 := by have := H.out.2.2.1; omega
    have hkk : k ≤ 8192 := by have := H.out.2.2.2.2; omega
    by_cases hlt : j < k
    · have hltz : decide ((m : Int) < (z : Int)) = true := by rw [decide_eq_true_eq]; omega
      have hltn : decide (m < z) = true := by rw [decide_eq_true_eq]; omega
      obtain ⟨Q, hQ⟩ : ∃ Q, Q = (a / 4096 + j) * 4096 := ⟨_, rfl⟩
      have hwQ : IntKind.u64.wrap ((a : Int) + (m : Int)) = (Q : Int) := (IntWalk.u64_in _ (by have := H.out.2.2.2.1; omega)).trans (by omega)
      have hwm : IntKind.u64.wrap ((m : Int) + 4096) = (((j + 1) * 4096 : Nat) : Int) := (IntWalk.u64_in _ (by omega)).trans (by omega)
      obtain ⟨pA, cA, rfl⟩ := ownsRow_form hr.a
      obtain ⟨pB, cB, rfl⟩ := ownsRow_form hr.b
      obtain ⟨pP, cP, rfl⟩ := ownsRow_form hr.p
      have r0 : wr.cell? ⟨o, 0, none⟩ = some (.slice pA j cA) := hr.row.cell 0
      have f0 := hr.row.own 0
      obtain ⟨iA, a1, a2, a3, a4⟩ := info_parts Try.infoU64
      obtain ⟨iB, b1, b2, b3, b4⟩ := info_parts Try.infoBs
      obtain ⟨iP, p1, p2, p3, p4⟩ := info_parts Try.infoInt
      have HR := hid (And.intro hr (And.intro hpg (And.intro hno (And.intro hbk (And.intro hbl (And.intro hm hQ))))))
      have HX := hid (And.intro (And.intro a1 (And.intro a2 (And.intro a3 a4))) (And.intro (And.intro b1 (And.intro b2 (And.intro b3 b4))) (And.intro p1 (And.intro p2 (And.intro p3 p4)))))
      have HZK := hid hzk
      clear hr hpg hno hbk hbl hm hQ hzk a1 a2 a3 a4 b1 b2 b3 b4 p1 p2 p3 p4
      go_wp2_with (at_builtin; go_loud (refine wpList_append_grew _ rfl _ _ 40 40 rfl w.heap.size 22 iA _ 1 8 Try.underlying40 HX.out.1.1 HX.out.1.2.1 HX.out.1.2.2.1 HX.out.1.2.2.2 rfl _ j _ rfl (HR.out.1.a.alloc _) _ 1 [.int .u64 (Q : Int)] rfl (Src.one wr Try.underlying40 _ rfl _) ?c1 ?c2 ?c3 ?_))
      case c1 => simp only [maxLen]; omega
      case c2 => omega
      case c3 => have := HR.out.2.2.2.2.1.size; simp; omega
      intro vA' w3 hown hg
      have hb1 : Below wr.heap.size wr (wr.alloc (.cells #[.int .u64 (Q : Int)] 22)) := (Below.refl _ _).alloc (Nat.le_refl _) _
      have hg1 := Grew.under hb1 hg
      have hrw := HR.out.1.growA hg1 hown
      obtain ⟨pA', cA', rfl⟩ := ownsRow_form hown
      have hr3 : RowAt w3 o 44 #[.slice pA j cA, .slice pB j cB, .slice pP j cP] := (hg1.block HR.out.1.row.lt HR.out.1.ne.1).trans HR.out.1.row
      have g0 := hr3.cell 0
      have g1 := hr3.own 0
      have hpk : ∀ g ∈ new, (w3.setCell ⟨o, 0, none⟩ (.slice pA' (j + 1) cA')).heap[g.blk]? = wr.heap[g.blk]? := fun g hg => by
        obtain ⟨f1, f2, f3, f4, f5⟩ := HR.out.1.far g.blk (List.mem_map.2 ⟨g, hg, rfl⟩)
        exact grow_block hg1 f5 f1 f2
      have hbl2 : Below w.heap.size w (w3.setCell ⟨o, 0, none⟩ (.slice pA' (j + 1) cA')) := grow_below HR.out.2.2.2.2.1 hg1 HR.out.2.2.2.2.1.size (fun k hk => (HR.out.1.a.lt k hk).1) (by rw [HST.out.2.1]; exact Nat.le_refl _) 0 _
      have HS := hid (And.intro hrw (And.intro hpk hbl2))
      clear hown hg hb1 hg1 hrw hr3 hpk hbl2 r0 f0
      obtain ⟨W2, hW2⟩ : ∃ W2, W2 = w3.setCell ⟨o, 0, none⟩ (.slice pA' (j + 1) cA') := ⟨_, rfl⟩
      rw [← hW2] at HS
      obtain ⟨K, hK⟩ : ∃ K, K = W2.heap.size := ⟨_, rfl⟩
      have r1 : W2.cell? ⟨o, 1, none⟩ = some (.slice pB j cB) := HS.out.1.row.cell 1
      have r1a : (W2.alloc (.cells (u8s zeroPg).toArray 5)).cell? ⟨o, 1, none⟩ = some (.slice pB j cB) := below_cell' ((Below.refl _ W2).alloc (Nat.le_refl _) _) HS.out.1.row.lt r1
      have r1b : ((W2.alloc (.cells (u8s zeroPg).toArray 5)).alloc (.cells #[.slice (some ⟨K, 0, none⟩) 4096 4096] 102)).cell? ⟨o, 1, none⟩ = some (.slice pB j cB) := below_cell' ((Below.refl _ _).alloc (Nat.le_refl _) _) (by simp; have := HS.out.1.row.lt; omega) r1a
      have hmk : (Instr.makeSlice 102 (.int .i64 4096) (.int .i64 4096)).run Try.prog W2.drew = .ok (.slice (some ⟨K, 0, none⟩) 4096 4096) (W2.alloc (.cells (u8s zeroPg).toArray 5)).drew := by rw [hK]; exact make_page W2.drew
      have HK := hid (And.intro hK hW2)
      have hoff : W2.frozen? ⟨o, 1, none⟩ = false := HS.out.1.row.own 1
      go_wp2_with fail
      rw [← hW2]
      clear hW2 hK g0 g1
      have hb2 : Below W2.heap.size W2 ((W2.alloc (.cells (u8s zeroPg).toArray 5)).alloc (.cells #[.slice (some ⟨K, 0, none⟩) 4096 4096] 102)) := ((Below.refl _ _).alloc (Nat.le_refl _) _).alloc (by simp) _
      have hsz : (W2.alloc (.cells (u8s zeroPg).toArray 5)).heap.size = K + 1 := by rw [World.size_alloc, HK.out.1]
      have HB2 := hid (And.intro hb2 hsz)
      clear hb2 hsz
      go_region_law (refine step_grew _ rfl _ _ _ _ rfl w.heap.size 102 iB _ 1 24 Try.underlying41 HX.out.2.1.1 HX.out.2.1.2.1 HX.out.2.1.2.2.1 HX.out.2.1.2.2.2 rfl _ j (bCells new) rfl (owns_drew (ownsRow_below HS.out.1.b HB2.out.1)) _ 1 [.slice (some ⟨K, 0, none⟩) 4096 4096] rfl (src_laidD (W2.alloc (.cells (u8s zeroPg).toArray 5)) Try.underlying41 _ 1 rfl (by simp [Value.oneCell']) (0, 0) (by simp)) (by simp only [maxLen]; omega) (by omega) (by have := HS.out.2.2.size; simp; omega) ?_; intro v1 W6 hl1 hg1; have hg2 : Grew W2 W6 _ v1 := Grew.under HB2.out.1 (grew_drew hg1); have hr6 : RowAt W6 o 44 #[.slice pA' (j + 1) cA', .slice pB j cB, .slice pP j cP] := (hg2.block HS.out.1.row.lt HS.out.1.ne.2.1).trans HS.out.1.row; have q1 := hr6.cell 1; have q1f := hr6.own 1; obtain ⟨pB', cB', hv1⟩ := ownsRow_form hl1; subst hv1; have H6 := hid (And.intro hl1 (And.intro hg1 (And.intro hg2 hr6))); clear hl1 hg1 hg2 hr6)
      all_goals
        have hrw := HS.out.1.growB H6.out.2.2.1 H6.out.1
        have hbl3 : Below w.heap.size w (W6.setCell ⟨o, 1, none⟩ (.slice pB' (j + 1) cB')) := grow_below HS.out.2.2 H6.out.2.2.1 HS.out.2.2.size (fun k hk => (HS.out.1.b.lt k hk).1) (by rw [HST.out.2.1]; exact Nat.le_refl _) 1 _
        have hKK := HK.out.1
        have hpg0 : RowAt (W6.setCell ⟨o, 1, none⟩ (.slice pB' (j + 1) cB')) K 5 (u8s zeroPg).toArray := by
          have h1 : RowAt (W2.alloc (.cells (u8s zeroPg).toArray 5)) K 5 (u8s zeroPg).toArray := by rw [hKK]; exact heap_alloc_new _ _
          have h2 : RowAt W6 K 5 (u8s zeroPg).toArray := by
            refine (H6.out.2.1.block (k := K) (by simp; omega) (fun e => ?_)).trans ((Below.heap_alloc _ _ K (by simp; omega)).trans h1)
            have := HS.out.1.b.lt K e; omega
          exact h2.other (fun e => by have := HS.out.1.row.lt; omega) _
        have hpk2 : ∀ g ∈ new, (W6.setCell ⟨o, 1, none⟩ (.slice pB' (j + 1) cB')).heap[g.blk]? = wr.heap[g.blk]? := fun g hg => by
          obtain ⟨f1, f2, f3, f4, f5⟩ := HS.out.1.far g.blk (List.mem_map.2 ⟨g, hg, rfl⟩)
          exact (grow_block H6.out.2.2.1 f5 f1 f3).trans (HS.out.2.1 g hg)
        have hKlt : K < (W6.setCell ⟨o, 1, none⟩ (.slice pB' (j + 1) cB')).heap.size := RowAt.lt hpg0
        have hrw2 := hrw.add hKlt (fun e => by have := HS.out.1.row.lt; omega) (fun e => by have := HS.out.1.a.lt K e; omega) (fun e => by
          rcases H6.out.2.1.lies with e1 | ⟨i, e1, hi⟩
          · rw [e1] at e; have := HS.out.1.b.lt K e; omega
          · rw [e1] at e; cases e; simp at hi; omega) (fun e => by have := HS.out.1.p.lt K e; omega)
        obtain ⟨W7, hW7⟩ : ∃ W7, W7 = W6.setCell ⟨o, 1, none⟩ (.slice pB' (j + 1) cB') := ⟨_, rfl⟩
        rw [← hW7] at hrw2 hbl3 hpg0 hpk2
        have H7 := hid (And.intro hrw2 (And.intro hbl3 (And.intro hpg0 hpk2)))
        clear hrw hrw2 hbl3 hpg0 hpk2 hKlt hKK
        have q2 : W7.cell? ⟨o, 2, none⟩ = some (.slice pP j cP) := H7.out.1.row.cell 2
        have HW7 := hid hW7
        rw [← hW7]
        clear hW7 q1 q1f r1 r1a r1b hmk hoff
        go_wp2_with (at_builtin; go_loud (refine wpList_append_grew _ rfl _ _ 42 42 rfl w.heap.size 3 iP _ 1 8 Try.underlying42 HX.out.2.2.1 HX.out.2.2.2.1 HX.out.2.2.2.2.1 HX.out.2.2.2.2.2 rfl _ j _ rfl (H7.out.1.p.alloc _) _ 1 [.int .i64 p] rfl (Src.one W7 Try.underlying42 _ rfl _) ?d1 ?d2 ?d3 ?_))
        case d1 => simp only [maxLen]; omega
        case d2 => omega
        case d3 => have := H7.out.2.1.size; simp; omega
        intro vP' w9 hown9 hg9
        have hb9 : Below W7.heap.size W7 (W7.alloc (.cells #[.int .i64 p] 3)) := (Below.refl _ _).alloc (Nat.le_refl _) _
        have hg := Grew.under hb9 hg9
        have hrw := H7.out.1.growP hg hown9
        obtain ⟨pP', cP', rfl⟩ := ownsRow_form hown9
        have hr9 : RowAt w9 o 44 #[.slice pA' (j + 1) cA', .slice pB' (j + 1) cB', .slice pP j cP] := (hg.block H7.out.1.row.lt H7.out.1.ne.2.2).trans H7.out.1.row
        have z0 := hr9.cell 2
        have z1 := hr9.own 2
        have hbl9 : Below w.heap.size w (w9.setCell ⟨o, 2, none⟩ (.slice pP' (j + 1) cP')) := grow_below H7.out.2.1 hg H7.out.2.1.size (fun k hk => (H7.out.1.p.lt k hk).1) (by rw [HST.out.2.1]; exact Nat.le_refl _) 2 _
        have hpk9 : ∀ q ∈ new.map (·.blk) ++ [K], (w9.setCell ⟨o, 2, none⟩ (.slice pP' (j + 1) cP')).heap[q]? = W7.heap[q]? := fun q hq => by
          obtain ⟨f1, f2, f3, f4, f5⟩ := H7.out.1.far q hq
          exact grow_block hg f5 f1 f4
        have hfin : MpR w o (a / 4096) p (j + 1) (w9.setCell ⟨o, 2, none⟩ (.slice pP' (j + 1) cP')) := by
          refine ⟨.slice pA' (j + 1) cA', .slice pB' (j + 1) cB', .slice pP' (j + 1) cP', new ++ [⟨a / 4096 + j, p, K, zeroPg⟩], ?_, ?_, ?_, ?_, hbl9⟩
          · have e1 : atCells (new ++ [⟨a / 4096 + j, p, K, zeroPg⟩]) = atCells new ++ [.int .u64 (Q : Int)] := by
              rw [HR.out.2.2.2.2.2.2]; simp [atCells]
            have e2 : bCells (new ++ [⟨a / 4096 + j, p, K, zeroPg⟩]) = bCells new ++ [.slice (some ⟨K, 0, none⟩) 4096 4096] := by simp [bCells]
            have e3 : pCells (new ++ [⟨a / 4096 + j, p, K, zeroPg⟩]) = pCells new ++ [.int .i64 p] := by simp [pCells]
            rw [e1, e2, e3, List.map_append]
            exact hrw
          · intro g hg'
            rcases List.mem_append.1 hg' with hg' | hg'
            · obtain ⟨x1, x2, x3, x4⟩ := HR.out.2.1 g hg'
              exact ⟨((hpk9 g.blk (List.mem_append_left _ (List.mem_map.2 ⟨g, hg', rfl⟩))).trans (H7.out.2.2.2 g hg')).trans x1, x2, x3, x4⟩
            · rw [List.mem_singleton] at hg'
              subst hg'
              exact ⟨(hpk9 K (by simp)).trans H7.out.2.2.1, rfl, rfl, by show w.heap.size ≤ K; rw [HK.out.1]; exact HS.out.2.2.size⟩
          · rw [List.map_append, HR.out.2.2.1, List.range'_concat]; simp
          · rw [List.pairwise_append]
            refine ⟨HR.out.2.2.2.1, List.pairwise_singleton _ _, fun x hx y hy => ?_⟩
            rw [List.mem_singleton] at hy
            subst hy
            intro e
            have := (HS.out.1.far x.blk (List.mem_map.2 ⟨x, hx, rfl⟩)).2.2.2.2
            have e2 : x.blk = K := e
            have := HK.out.1
            omega
        have hF := hid hfin
        clear hb9 hg9 hg hrw hr9 hbl9 hpk9 hfin hown9 q2
        go_wp2_with fail
        go_roundw
        case rel => exact ⟨j + 1, by omega, rfl, hF.out⟩
        case measure => have := HR.out.2.2.2.2.2.1; have := HZK.out; simp [intOf]; omega
    · have hjk : j = k := by omega
      subst hjk
      have hltz : decide ((m : Int) < (z : Int)) = false := by rw [decide_eq_false_iff_not]; omega
      have hltn : decide (m < z) = false := by rw [decide_eq_false_iff_not]; omega
      obtain ⟨pA, cA, rfl⟩ := ownsRow_form hr.a
      obtain ⟨pB, cB, rfl⟩ := ownsRow_form hr.b
      obtain ⟨pP, cP, rfl⟩ := ownsRow_form hr.p
      have hr1 : RowAt wr r 44 #[.slice none 0 0, .slice none 0 0, .slice none 0 0] := H.out.1.below hbl
      have c1 := hr1.cell 0
      have c2 := hr1.cell 1
      have c3 := hr1.cell 2
      have k0 := hr1.own 0
      have k1 := hr1.own 1
      have k2 := hr1.own 2
      have o0 := hr.row.cell 0
      have o1 := hr.row.cell 1
      have o2 := hr.row.cell 2
      have HE := hid (And.intro hr (And.intro hpg (And.intro hno (And.intro hbk (And.intro hbl hzk)))))
      clear hr hpg hno hbk hbl hzk hm hr1
      go_wp2_with fail
      all_goals
        rw [rounds_succ]
        go_wp2_with fail
      all_goals
        go_ret
        have := rmap_fin H.out.1 H.out.2.1 HE.out.2.2.2.2.1 HE.out.1 HE.out.2.1 HE.out.2.2.1 (by have := H.out.2.2.2.1; have := HE.out.2.2.2.2.2; omega) HE.out.2.2.2.1
        rw [← H.out.2.2.1]
        exact ⟨rfl, this.2⟩
end Go.Proofs.Ytacmjpkcimjjpaa
