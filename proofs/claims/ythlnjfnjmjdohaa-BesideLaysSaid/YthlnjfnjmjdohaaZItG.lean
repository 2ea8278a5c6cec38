/- A slice that is collected in a box, one element a round. Plain laws. -/
import Derived.Test.YthlnjfnjmjdohaaZRow
namespace Go.Proofs.Ythlnjfnjmjdohaa
set_option linter.unusedSimpArgs false
set_option linter.unusedVariables false
open Go.RowKit

theorem wpListIn_append_grew {F : Fence} {n' : Nat} {P : Program} (w : World) {ops : Array Oper} {rest : List Oper} {o : Oper} {a : Act} {Q : Exit → Act → World → Prop} (hgd : o.guard = none) (s y : Operand) (t tx : TypeId)
    (ho : o.op = .call { callee := .builtin .append, args := #[s, y], argTypes := #[t, tx] })
    (base : Nat) (e : TypeId) (i : TypeInfo) (z : Value) (size bytes : Nat) (ht : P.underlying t = some (.slice e)) (hi : P.info? e = some i) (hz : i.zero = some z)
    (hsize : i.size = size) (hby : i.bytes = bytes) (hzs : z.cells.size = size)
    (v : Value) (n : Nat) (xs : List Value) (hsv : a.eval s = v) (hown : w.ownsRow base e size v n xs)
    (x : Value) (m : Nat) (news : List Value) (hx : a.eval y = x) (hs : Src P size tx x m news w)
    (h63 : n + m ≤ maxLen) (hbytes : (n + m) * bytes ≤ 140737488355328) (hbase : base ≤ w.heap.size)
    (h : ∀ v' w', w'.ownsRow base e size v' (n + m) (xs ++ news) → Grew w w' v v' → wpListIn F n' P ops Q rest (a.put o.dst v') w') : wpListIn F n' P ops Q (o :: rest) a w := by
  refine wpListIn_plain hgd fun K hK => ?_
  obtain ⟨v', w', hr, h2, h3⟩ := run_append_grew (P := P) w base t tx o.type e i z size bytes ht hi hz hsize hby hzs v n xs hown x m news hs h63 hbytes hbase
  unfold Oper.wpIn
  refine ⟨by simp [Oper.about, ho, resolve, Target.leads, Sem.run_pure], ?_⟩
  rw [Oper.semAt_plain F _ _ (by rw [ho]; intro c hc'; cases hc')]
  simp [execOp, ho, resolve, invoke, builtin, hsv, hx, hr, Result.andThen]
  exact hK _ _ (h v' w' h2 h3)

/-- A box that holds a slice of the call's own. -/
structure Col (n0 : Nat) (tS tE : TypeId) (size : Nat) (W : World) (Bx : Nat) (v : Value) (n : Nat) (xs : List Value) : Prop where
  row : RowAt W Bx tS #[v]
  own : W.ownsRow n0 tE size v n xs
  ne : v.ownBlock ≠ some Bx

theorem Col.nil {n0 : Nat} {tS tE : TypeId} {size : Nat} {W : World} {Bx : Nat} (h : RowAt W Bx tS #[.slice none 0 0]) : Col n0 tS tE size W Bx (.slice none 0 0) 0 [] :=
  ⟨h, World.ownsRow_nil _ _ _ _, by simp [Value.ownBlock]⟩

theorem Col.lt {n0 : Nat} {tS tE : TypeId} {size : Nat} {W : World} {Bx : Nat} {v : Value} {n : Nat} {xs : List Value} (h : Col n0 tS tE size W Bx v n xs) : Bx < W.heap.size ∧ ∀ k, v.ownBlock = some k → n0 ≤ k ∧ k < W.heap.size :=
  ⟨h.row.lt, h.own.lt⟩

/-- What leaves the box and the slice as they lie. -/
theorem Col.same {n0 : Nat} {tS tE : TypeId} {size : Nat} {W W' : World} {Bx : Nat} {v : Value} {n : Nat} {xs : List Value} (h : Col n0 tS tE size W Bx v n xs)
    (hb : W'.heap[Bx]? = W.heap[Bx]?) (hv : ∀ k, v.ownBlock = some k → W'.heap[k]? = W.heap[k]?) : Col n0 tS tE size W' Bx v n xs := by
  refine ⟨hb.trans h.row, ⟨h.own.1, ?_⟩, h.ne⟩
  rcases h.own.2 with hn | ⟨g, cap, cur, rfl, hg, hc, rest⟩
  · exact .inl hn
  · exact .inr ⟨g, cap, cur, rfl, hg, (hv g rfl).trans hc, rest⟩

/-- What a round of collecting leaves. -/
structure ColF (W W' : World) (Bx : Nat) (v v' : Value) : Prop where
  os : W'.os = W.os
  tape : W'.tape = W.tape
  output : W'.output = W.output
  size : W.heap.size ≤ W'.heap.size
  keep : ∀ k, k < W.heap.size → k ≠ Bx → v.ownBlock ≠ some k → W'.heap[k]? = W.heap[k]?
  others : KeepsOthers W W'
  lies : ∀ k, v'.ownBlock = some k → v.ownBlock = some k ∨ W.heap.size ≤ k

theorem Col.step {n0 : Nat} {tS tE : TypeId} {size : Nat} {W W1 w3 : World} {Bx : Nat} {v v' : Value} {n m : Nat} {xs ys : List Value} (h : Col n0 tS tE size W Bx v n xs) (h1 : ∃ o, W1 = W.alloc o)
    (hown : w3.ownsRow n0 tE size v' m ys) (hg : Grew W1 w3 v v') : Col n0 tS tE size (w3.setCell ⟨Bx, 0, none⟩ v') Bx v' m ys ∧ ColF W (w3.setCell ⟨Bx, 0, none⟩ v') Bx v v' := by
  obtain ⟨o, rfl⟩ := h1
  have hb1 : Below W.heap.size W (W.alloc o) := (Below.refl _ _).alloc (Nat.le_refl _) _
  have hBl := h.row.lt
  have hs1 : (W.alloc o).heap.size = W.heap.size + 1 := by simp
  have hr3 : RowAt w3 Bx tS #[v] := (hg.block (by rw [hs1]; omega) h.ne).trans ((hb1.block Bx hBl).trans h.row)
  have hlies : ∀ k, v'.ownBlock = some k → v.ownBlock = some k ∨ W.heap.size ≤ k := by
    intro k hk
    rcases hg.lies with e | ⟨j, e, hj⟩
    · exact .inl (e.symm.trans hk)
    · rw [e] at hk; cases hk; right; omega
  have hne' : v'.ownBlock ≠ some Bx := by
    intro e
    rcases hlies Bx e with e' | e'
    · exact h.ne e'
    · omega
  refine ⟨⟨hr3.same v', ownsRow_setOther hown hne' _, hne'⟩, ⟨hg.by_.os, hg.by_.tape, hg.by_.output, ?_, ?_, ?_, hlies⟩⟩
  · have := hg.size; simp only [World.setCell, Array.size_modify]; omega
  · intro k hk hkb hkv
    rw [heap_setCell_other w3 _ k _ (by simpa using hkb), hg.block (by rw [hs1]; omega) hkv, hb1.block k hk]
  · refine (KeepsOthers.alloc W o).trans ((KeepsOthers.of_grownBy hg.by_ ?_).trans (KeepsOthers.setCell _ _ _))
    intro j ob hj hob
    rcases h.own.2 with ⟨rfl, _⟩ | ⟨g, cap, cur, rfl, hg', hc, rest⟩
    · simp [Value.ownBlock] at hj
    · have : g = j := by simpa [Value.ownBlock] using hj
      subst this
      have hc1 : (W.alloc o).heap[g]? = some (.cells cur tE (0, 0)) := (hb1.block g (Array.getElem?_eq_some_iff.1 hc).1).trans hc
      rw [hc1] at hob
      cases hob
      rfl

/-- What the round promises the iterator. -/
theorem ColF.kept {W W' : World} {Bx : Nat} {v v' : Value} (h : ColF W W' Bx v v') {M : Nat → Prop} (hb : ¬ M Bx) (hv : ∀ k, v.ownBlock = some k → ¬ M k) : Kept M W W' :=
  ⟨h.os, h.tape, h.output, h.size, fun k hk hm => h.keep k hk (fun e => hb (e ▸ hm)) (fun e => hv k e hm)⟩

/-- What has changed since the call began: what lay then is as it was, but for the blocks M0; the iterator's blocks are these and new ones. -/
structure Fr (M0 : Nat → Prop) (w : World) (M : Nat → Prop) (W : World) : Prop where
  os : W.os = w.os
  tape : W.tape = w.tape
  output : W.output = w.output
  size : w.heap.size ≤ W.heap.size
  keep : ∀ k, k < w.heap.size → ¬ M0 k → W.heap[k]? = w.heap[k]?
  new : ∀ k, M k → M0 k ∨ w.heap.size ≤ k

theorem Fr.refl (M0 : Nat → Prop) (w : World) : Fr M0 w M0 w := ⟨rfl, rfl, rfl, Nat.le_refl _, fun _ _ _ => rfl, fun _ h => .inl h⟩
theorem Fr.its {M0 M M' : Nat → Prop} {w W W' : World} (h : Fr M0 w M W) (g : Its M M' W W') : Fr M0 w M' W' :=
  ⟨g.os.trans h.os, g.tape.trans h.tape, g.output.trans h.output, Nat.le_trans h.size g.size,
    fun k hk hm => (g.keep k (Nat.lt_of_lt_of_le hk h.size) (fun hk' => by rcases h.new k hk' with h1 | h1; exact hm h1; omega)).trans (h.keep k hk hm),
    fun k hk => by
      rcases g.new k hk with h1 | h1
      · exact h.new k h1
      · exact .inr (Nat.le_trans h.size h1)⟩
theorem Fr.below {M0 M : Nat → Prop} {w W W' : World} (h : Fr M0 w M W) (g : Below w.heap.size W W') : Fr M0 w M W' :=
  ⟨g.os.trans h.os, g.tape.trans h.tape, g.output.trans h.output, Nat.le_trans h.size g.size, fun k hk hm => (g.block k hk).trans (h.keep k hk hm), h.new⟩
theorem Fr.sub {M0 M M' : Nat → Prop} {w W : World} (h : Fr M0 w M W) (g : ∀ k, M' k → M k) : Fr M0 w M' W := ⟨h.os, h.tape, h.output, h.size, h.keep, fun k hk => h.new k (g k hk)⟩
theorem Fr.turn {M0 M : Nat → Prop} {w W : World} (h : Fr M0 w M W) {l : Nat} (o : Obj) (hl : w.heap.size ≤ l) : Fr M0 w M (W.putObj l o) :=
  ⟨h.os, h.tape, h.output, by simpa using h.size, fun k hk hm => (World.putObj_heap_other (by omega)).trans (h.keep k hk hm), h.new⟩
theorem ColF.fr {w W W' : World} {Bx : Nat} {v v' : Value} (h : ColF W W' Bx v v') {M0 M : Nat → Prop} (g : Fr M0 w M W) (hb : w.heap.size ≤ Bx) (hv : ∀ k, v.ownBlock = some k → w.heap.size ≤ k) : Fr M0 w M W' :=
  ⟨h.os.trans g.os, h.tape.trans g.tape, h.output.trans g.output, Nat.le_trans g.size h.size,
    fun k hk hm => (h.keep k (Nat.lt_of_lt_of_le hk g.size) (fun e => by omega) (fun e => by have := hv k e; omega)).trans (g.keep k hk hm), g.new⟩
end Go.Proofs.Ythlnjfnjmjdohaa
