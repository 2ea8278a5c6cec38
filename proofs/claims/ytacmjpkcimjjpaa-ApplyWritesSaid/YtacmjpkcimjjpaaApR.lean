/- Both spaces side by side: what stands from call to call. -/
import Derived.Test.YtacmjpkcimjjpaaApQ
namespace Go.Proofs.Ytacmjpkcimjjpaa
set_option linter.unusedSimpArgs false
set_option linter.unusedVariables false
open Go.RowKit Go.Maps

/-- Behind a change of some blocks that are none of its own. -/
theorem RSp.keep {n0 : Nat} {W W' : World} {r : Nat} {vA vB vP : Value} {pgs : List Pg} (h : RSp n0 W r vA vB vP pgs) (hr : W'.heap[r]? = W.heap[r]?) (ho : ∀ k, vA.ownBlock = some k ∨ vB.ownBlock = some k ∨ vP.ownBlock = some k → k < W.heap.size → W'.heap[k]? = W.heap[k]?) (hp : ∀ g ∈ pgs, W'.heap[g.blk]? = W.heap[g.blk]?) : RSp n0 W' r vA vB vP pgs :=
  ⟨hr.trans h.row, own_same h.a (fun k hk => ho k (.inl hk) (h.a.lt k hk).2), own_same h.b (fun k hk => ho k (.inr (.inl hk)) (h.b.lt k hk).2), own_same h.p (fun k hk => ho k (.inr (.inr hk)) (h.p.lt k hk).2),
    fun g hg => ⟨(hp g hg).trans (h.pages g hg).1, (h.pages g hg).2⟩, h.nos, h.blks, h.ne, h.lo⟩

theorem SpAt.keep {W W' : World} {s b : Nat} {pgs : List Pg} (h : SpAt W s b pgs) (hk : ∀ k, (k = s ∨ k = b ∨ ∃ g ∈ pgs, g.blk = k) → W'.heap[k]? = W.heap[k]?) : SpAt W' s b pgs := by
  obtain ⟨h1, h2, h3, h4, h5, h6⟩ := h
  refine ⟨(hk _ (.inl rfl)).trans h1, ?_, fun g hg => ⟨(hk _ (.inr (.inr ⟨g, hg, rfl⟩))).trans (h3 g hg).1, (h3 g hg).2⟩, h4, h5, h6⟩
  obtain ⟨es, clock, m1, m2⟩ := h2
  exact ⟨es, clock, (hk b (.inr (.inl rfl))).trans m1, m2⟩

/-- Both spaces, and the fixup's box. -/
structure RI (w : World) (T Bx s b r : Nat) (vA vB vP : Value) (f : Fx) (A B : List Pg) (W : World) : Prop where
  sp : SpAt W s b A
  rf : RSp w.heap.size W r vA vB vP B
  row : RowAt W Bx 25 f.cells
  bel : Below w.heap.size w W
  ord : w.heap.size ≤ Bx ∧ Bx < s ∧ Bx < b ∧ s < r ∧ b < r ∧ r < T
  pa : ∀ g ∈ A, r < g.blk ∧ g.blk < T
  pb : ∀ g ∈ B, T ≤ g.blk
  ow : ∀ k, vA.ownBlock = some k ∨ vB.ownBlock = some k ∨ vP.ownBlock = some k → T ≤ k

section
variable {w : World} {T Bx s b r : Nat} {vA vB vP : Value} {f : Fx} {A B A' B' : List Pg} {W W' : World}

theorem RI.all (h : RI w T Bx s b r vA vB vP f A B W) :
    W.cell? ⟨Bx, 0, none⟩ = some (.int .u64 (f.at_ : Int)) ∧ W.cell? ⟨Bx, 1, none⟩ = some (.int .i64 f.kind) ∧ W.cell? ⟨Bx, 2, none⟩ = some (.int .u64 (f.tgt : Int)) ∧ W.cell? ⟨Bx, 3, none⟩ = some (.int .i64 f.ord) ∧ W.cell? ⟨Bx, 4, none⟩ = some (.string (mkS f.sym)) ∧ W.cell? ⟨Bx, 5, none⟩ = some (.int .i64 f.add) ∧ W.cell? ⟨Bx, 6, none⟩ = some (.bool f.weak) :=
  Fx.at7 h.row

theorem RI.next (h : RI w T Bx s b r vA vB vP f A B W) (hb : Below W.heap.size W W') : RI w T Bx s b r vA vB vP f A B W' :=
  ⟨h.sp.below hb, h.rf.below hb, h.row.below hb, h.bel.trans (hb.mono h.bel.size), h.ord, h.pa, h.pb, h.ow⟩

theorem blk_of_keys {p q : List Pg} (h : p.map pgK = q.map pgK) {g : Pg} (hg : g ∈ q) : ∃ g' ∈ p, g'.blk = g.blk := by
  obtain ⟨g', h1, h2⟩ := mem_keys h hg
  exact ⟨g', h1, congrArg (fun x : Nat × Int × Nat => x.2.2) h2⟩

/-- The program's write. -/
theorem RI.wrote (h : RI w T Bx s b r vA vB vP f A B W) (hs : SpAt W' s b A') (hf : SpF W W' A) (hk : A'.map pgK = A.map pgK) : RI w T Bx s b r vA vB vP f A' B W' := by
  obtain ⟨o1, o2, o3, o4, o5, o6⟩ := h.ord
  have hb : ∀ k, k < W.heap.size → (k ≤ r ∨ T ≤ k) → W'.heap[k]? = W.heap[k]? := fun k hk hh => hf.block k hk fun g hg e => by have := h.pa g hg; omega
  refine ⟨hs, h.rf.keep (hb r h.rf.row.lt (.inl (Nat.le_refl _))) (fun k hk hlt => hb k hlt (.inr (h.ow k hk))) (fun g hg => hb _ (h.rf.lt g hg) (.inr (h.pb g hg))), (hb _ h.row.lt (.inl (by omega))).trans h.row,
    ⟨hf.os.trans h.bel.os, hf.tape.trans h.bel.tape, hf.output.trans h.bel.output, Nat.le_trans h.bel.size hf.size, fun k hk => (hb k (Nat.lt_of_lt_of_le hk h.bel.size) (.inl (by omega))).trans (h.bel.block k hk)⟩, h.ord, fun g hg => ?_, h.pb, h.ow⟩
  obtain ⟨g', h1, h2⟩ := blk_of_keys hk.symm hg
  rw [← h2]
  exact h.pa g' h1

/-- The reference's write. -/
theorem RI.rwrote (h : RI w T Bx s b r vA vB vP f A B W) (hs : RSp w.heap.size W' r vA vB vP B') (hf : SpF W W' B) (hk : B'.map pgK = B.map pgK) : RI w T Bx s b r vA vB vP f A B' W' := by
  obtain ⟨o1, o2, o3, o4, o5, o6⟩ := h.ord
  have hb : ∀ k, k < W.heap.size → k < T → W'.heap[k]? = W.heap[k]? := fun k hk hh => hf.block k hk fun g hg e => by have := h.pb g hg; omega
  refine ⟨h.sp.keep ?_, hs, (hb _ h.row.lt (by omega)).trans h.row,
    ⟨hf.os.trans h.bel.os, hf.tape.trans h.bel.tape, hf.output.trans h.bel.output, Nat.le_trans h.bel.size hf.size, fun k hk => (hb k (Nat.lt_of_lt_of_le hk h.bel.size) (by omega)).trans (h.bel.block k hk)⟩, h.ord, h.pa, fun g hg => ?_, h.ow⟩
  · rintro k (rfl | rfl | ⟨g, hg, rfl⟩)
    · exact hb _ h.sp.lt.1 (by omega)
    · exact hb _ h.sp.lt.2.1 (by omega)
    · exact hb _ (h.sp.lt.2.2 g hg) (h.pa g hg).2
  · obtain ⟨g', h1, h2⟩ := blk_of_keys hk.symm hg
    rw [← h2]
    exact h.pb g' h1
end

theorem rapPgs_keys (pgs : List Pg) (hb : ∀ g ∈ pgs, g.bytes.length = 4096) (f : Fx) (sl tg : Nat) (is : Bool) : (rapPgs pgs f sl tg is).map pgK = pgs.map pgK := by
  unfold rapPgs wrB
  split
  · split
    · rw [← putM_putB _ (Nat.le_refl _) hb, putM_keys]
    · rfl
  · rfl

/-- A list of one piece. -/
def HasP (d : Nat × Int × List UInt8) (v : Value) (W : World) : Prop := ∃ n0 x, Pc.d x = d ∧ W.ownsRow n0 106 3 v 1 (pcCells [x]) ∧ BS W x.sl x.bytes
theorem HasP.below {d : Nat × Int × List UInt8} {v : Value} {W W' : World} (h : HasP d v W) (hb : Below W.heap.size W W') : HasP d v W' := by
  obtain ⟨n0, x, h1, h2, h3⟩ := h
  exact ⟨n0, x, h1, ownsRow_below h2 hb, h3.below hb⟩

theorem same_hasP {W : World} {d : Nat × Int × List UInt8} {v u : Value} (hv : HasP d v W) (hu : HasP d u W) : Calls Try.prog 14 #[v, u] W fun e w' => e = .returned (.bool true) ∧ Below W.heap.size W w' := by
  obtain ⟨n0, x, x1, x2, x3⟩ := hv
  obtain ⟨n1, y, y1, y2, y3⟩ := hu
  refine (rs_same W n0 n1 v u x y x2 x3 y2 y3 (x1.trans y1.symm)).mono ?_
  rintro e w' ⟨he, q, rfl⟩
  exact ⟨he, ⟨rfl, rfl, rfl, Nat.le_refl _, fun _ _ => rfl⟩⟩

section
variable {w : World} {T Bx s b r : Nat} {vA vB vP : Value} {f : Fx} {A B : List Pg}

/-- The calls of ApplyWrites' last statement. -/
theorem ri_write (hA : A.length ≤ 8192) (hf : f.In) (sl tg : Nat) (is : Bool) (hs : sl < 18446744073709551616) (ht : tg < 18446744073709551616) (W : World) (h : RI w T Bx s b r vA vB vP f A B W) :
    Calls Try.prog 7 #[.pointer (some ⟨s, 0, none⟩), .int .u64 (sl : Int), f.v, .int .u64 (tg : Int), .bool is] W fun e w' => e = .returned (.int .i64 (apE A f sl)) ∧ RI w T Bx s b r vA vB vP f (apPgs A f sl tg is) B w' := by
  refine (ap_write W s b A f sl tg is h.sp hA hf hs ht).mono ?_
  rintro e w' ⟨he, h1, h2⟩
  exact ⟨he, h.wrote h1 h2 (apPgs_keys _ _ _ _ _)⟩

theorem ri_rwrite (hB : B.length ≤ 8192) (hpr : ∀ g ∈ B, 0 ≤ g.prot ∧ g.prot ≤ 7) (hf : f.In) (hl : f.sym.length ≤ 140737488355328) (sl tg : Nat) (is : Bool) (hs : sl < 18446744073709551616) (ht : tg < 18446744073709551616) (W : World) (h : RI w T Bx s b r vA vB vP f A B W) :
    Calls Try.prog 13 #[.pointer (some ⟨r, 0, none⟩), .int .u64 (sl : Int), f.v, .int .u64 (tg : Int), .bool is] W fun e w' => e = .returned (.int .i64 (apE B f sl)) ∧ RI w T Bx s b r vA vB vP f A (rapPgs B f sl tg is) w' := by
  refine (rap_write w.heap.size W r vA vB vP B h.rf hB hpr f sl tg is hf hl hs ht).mono ?_
  rintro e w' ⟨he, h1, h2⟩
  exact ⟨he, h.rwrote h1 h2 (rapPgs_keys _ (fun g hg => (h.rf.pages g hg).2.1) _ _ _ _)⟩

theorem ri_dumps {no : Nat} {p : Int} (ht : Twin A B) (hn : A.map (·.no) = List.range' no 2) (hp : ∀ g ∈ A, g.prot = p) (hno : no < 34359738360) :
    ∃ d, (∀ W, RI w T Bx s b r vA vB vP f A B W → Calls Try.prog 15 #[.pointer (some ⟨s, 0, none⟩)] W fun e w' => ∃ v, e = .returned v ∧ HasP d v w' ∧ Below W.heap.size W w') ∧
      ∀ W, RI w T Bx s b r vA vB vP f A B W → Calls Try.prog 16 #[.pointer (some ⟨r, 0, none⟩)] W fun e w' => ∃ v, e = .returned v ∧ HasP d v w' ∧ Below W.heap.size W w' := by
  obtain ⟨x, y, rfl, h1, h2, h3⟩ := same_dump ht hn hp (ys := A.map (·.no)) (List.Perm.refl _) (by rw [hn]; simp [List.range'])
  refine ⟨(x.no * 4096, x.prot, x.bytes ++ y.bytes), fun W h => ?_, fun W h => ?_⟩
  · have hl : A.length = 2 := ht.len
    refine (sp_dump W s b A h.sp (by omega) (fun g hg => ?_)).mono ?_
    · have : g.no ∈ A.map (·.no) := List.mem_map.2 ⟨g, hg, rfl⟩
      rw [hn, List.mem_range'_1] at this
      omega
    · rintro e w' ⟨v, xs, ys, he, hy, hs, hd, ho, hb, hbel⟩
      obtain ⟨x', y', hB, -, -, h3'⟩ := same_dump ht hn hp hy hs
      cases hB
      rw [h3'] at hd
      obtain ⟨q, rfl⟩ : ∃ q, xs = [q] := List.length_eq_one_iff.1 (by have := congrArg List.length hd; simpa using this)
      simp only [List.map_cons, List.map_nil, List.cons.injEq, and_true] at hd
      exact ⟨v, he, ⟨_, q, hd, ho, hb q (by simp)⟩, hbel⟩
  · refine (rs_dump2 w.heap.size W r vA vB vP x y h.rf h1 h2).mono ?_
    rintro e w' ⟨v, q, he, hd, ho, hb, hbel⟩
    exact ⟨v, he, ⟨_, q, hd, ho, hb⟩, hbel⟩
end
end Go.Proofs.Ytacmjpkcimjjpaa
