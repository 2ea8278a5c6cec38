/- The reference's numbers, names and blobs (chapter 26). -/
import Derived.Test.YtfkpbgookilhjaaGreatDoorZAppend
import Derived.Test.YtfkpbgookilhjaaGreatDoorRows
import Derived.Test.YtfkpbgookilhjaaGreatDoorZScM
namespace Go.Proofs.YtfkpbgookilhjaaGreatDoor
set_option linter.unusedSimpArgs false
set_option linter.unusedVariables false
open Go.RowKit

theorem Tryz.infoByteS : (Tryz.prog.info? 5).map (fun i => (i.zero, i.size, i.bytes)) = some (some (.int .u8 0), 1, 1) := by kernel_rfl
theorem un_bsS : Tryz.prog.underlying 30 = some (.slice 5) := by kernel_rfl
theorem un_strS : Tryz.prog.underlying 9 = some .string := by kernel_rfl
theorem u8rowS : ∃ i, U8Row Tryz.prog 30 5 i := by
  obtain ⟨i0, hi, hz0, hz1, hz2⟩ := info_parts Tryz.infoByteS
  exact ⟨i0, un_bsS, hi, hz0, hz1, hz2⟩

theorem put_byteS (n k : Nat) : ((n : Int) / 2 ^ (8 * k) % 256) = (((UInt8.ofNat (n / 256 ^ k % 256)).toNat : Nat) : Int) := by
  have e : (256 : Nat) ^ k = 2 ^ (8 * k) := by rw [Nat.pow_mul]
  have e2 : (n : Int) / 2 ^ (8 * k) % 256 = ((n / 2 ^ (8 * k) % 256 : Nat) : Int) := by simp
  rw [e2, e]
  simp
theorem Src.byteS {P : Program} (w : World) {tx e' t : TypeId} (hk : P.underlying tx = some (.slice e')) (x : Int) (y : UInt8) (hx : x = (y.toNat : Int)) (m : Nat × Nat) :
    Src P 1 tx (.slice (some ⟨w.heap.size, 0, none⟩) 1 1) [y].length (u8s [y]) (w.alloc (.cells #[.int .u8 x] t m)) := by
  subst hx
  exact Src.one w hk _ rfl m
theorem low_byteS (y : Nat) : ((y : Int) % 256) = (((UInt8.ofNat (y % 256)).toNat : Nat) : Int) := by simp

/-- What lies below a bound reads on. -/
theorem BS.under {w w' : World} {B : Nat} {v : Value} {l : List UInt8} (h : BS w v l) (hb : Below B w w') (hv : ∀ k, inBlk v k → k < B) : BS w' v l := h.of_block fun k hk _ => hb.block k (hv k hk)

set_option maxHeartbeats 400000 in
theorem ref_lowS (w : World) (n size : Nat) (m : Int) (hm : m = size) (hs : size ≤ 8) (hn : n < 2 ^ 64) :
    Calls Tryz.prog 79 #[.int .u64 n, .int .i64 m] w fun e w' => ∃ v', e = .returned v' ∧ OB w' w.heap.size 5 v' (lowB n size) ∧ Below w.heap.size w w' := by
  subst hm
  obtain ⟨i, R⟩ := u8rowS
  have H := hid R
  have hdiv : ∀ k : Nat, n / 256 ^ k < 2 ^ 64 := fun k => Nat.lt_of_le_of_lt (Nat.div_le_self _ _) hn
  have Hd := hid hdiv
  clear R hdiv
  go_enter Tryz.func79, Tryz.ntmps79
  go_wp2
  go_loopw [0, 5, 6] (fun x b i wr => ∃ k y : Nat, k ≤ size ∧ i = .int .i64 k ∧ y = n / 256 ^ k ∧ x = .int .u64 (y : Int) ∧ OB wr w.heap.size 5 b (lowB n k) ∧ Below w.heap.size w wr) (fun _ _ i _ => size - (intOf i).toNat)
  case atStart => exact ⟨0, n, Nat.zero_le _, rfl, by simp, rfl, OB.nil _ _ _, Below.refl _ _⟩
  case round =>
    obtain ⟨k, y, hk, rfl, hy, rfl, hown, hb⟩ := hrel
    have Hr := hid (And.intro hown hb)
    have hz := hb.size
    have hlt64 : y < 2 ^ 64 := by rw [hy]; exact Hd.out k
    have Hy := hid hy
    clear hy
    clear hown hb
    by_cases hlt : k < size
    · go_wp2_with (at_builtin; refine wpList_bytes H.out _ rfl _ _ _ rfl w.heap.size _ (lowB n k) rfl (Hr.out.1.below ((Below.refl _ _).alloc (Nat.le_refl _) _)) _ [UInt8.ofNat (y % 256)] rfl (Src.byteS wr un_bsS _ _ (low_byteS y) _) ?c3 ?c4 ?_)
      case c3 => simp [lowB_length]; omega
      case c4 => simp; omega
      intro v' w1 hown1 hgr1
      have H1 := hid (And.intro hown1 hgr1)
      clear hown1 hgr1
      go_wp2
      refine ⟨⟨k + 1, y / 256, by omega, by go_num, ?_, by go_num, ?_, ?_⟩, by simp [intOf]; omega⟩
      · rw [Nat.pow_succ, ← Nat.div_div_eq_div_mul, Hy.out]
      · rw [lowB_snoc, ← Hy.out]; exact H1.out.1
      · exact Hr.out.2.trans (Below.trans ((Below.refl _ _).alloc hz _) (H1.out.2.below (by simp; omega) Hr.out.1.high))
    · go_wp2
      go_ret
      obtain rfl : k = size := by omega
      exact ⟨_, rfl, Hr.out.1, Hr.out.2⟩

/-- An answer that took the place of v. -/
def GrewTo (w : World) (B : Nat) (v : Value) (ys : List UInt8) (e : Ending) (w' : World) : Prop := ∃ v', e = .returned v' ∧ OB w' B 5 v' ys ∧ Grew w w' v v'

set_option maxHeartbeats 400000 in
theorem rf_low (w : World) (B : Nat) (v : Value) (xs : List UInt8) (n size : Nat) (m : Int) (hm : m = size) (hs : size ≤ 8) (hn : n < 2 ^ 64) (hown : OB w B 5 v xs) (hlen : xs.length + size ≤ 140737488355328) (hB : B ≤ w.heap.size) :
    Calls Tryz.prog 43 #[v, .int .u64 n, .int .i64 m] w (GrewTo w B v (xs ++ lowB n size)) := by
  obtain ⟨i, R⟩ := u8rowS
  subst hm
  have HL := hid (fun w => ref_lowS w n size (size : Int) rfl hs hn)
  have H := hid (And.intro R hown)
  clear R hown
  go_enter Tryz.func43, Tryz.ntmps43
  go_wp2_with fail
  refine (HL.out _).mono ?_
  rintro e W1 ⟨v1, rfl, hown1, hb1⟩
  obtain ⟨a1, c1, rfl⟩ := hown1.form
  have hz1 := hb1.size
  have H1 := hid (And.intro (H.out.2.below hb1) (And.intro (Src.ofBS (P := Tryz.prog) un_bsS (hown1.bs (by rw [lowB_length]; omega))) hb1))
  clear hown1 hb1
  go_wp2_with (at_builtin; refine wpList_bytes H.out.1 _ rfl _ _ _ rfl B _ xs rfl H1.out.1 _ (lowB n size) rfl H1.out.2.1 ?c3 ?c4 ?_)
  case c3 => rw [lowB_length]; exact hlen
  case c4 => omega
  intro v2 W2 hown2 hg2
  have H2 := hid (And.intro hown2 (Grew.under H1.out.2.2 hg2))
  clear hown2 hg2
  go_wp2
  go_ret
  exact ⟨_, rfl, H2.out.1, H2.out.2⟩

set_option maxHeartbeats 400000 in
theorem rf_name (w : World) (B : Nat) (v : Value) (xs s : List UInt8) (hown : OB w B 5 v xs) (hlen : xs.length + 2 + s.length ≤ 140737488355328) (hB : B ≤ w.heap.size) :
    Calls Tryz.prog 44 #[v, .string (mkS s)] w (GrewTo w B v (xs ++ nmB s)) := by
  obtain ⟨i, R⟩ := u8rowS
  have hw1 : IntKind.u64.wrap (s.length : Int) = s.length := IntWalk.u64_in _ (by omega)
  have H := hid (And.intro R hown)
  clear R hown
  go_enter Tryz.func44, Tryz.ntmps44
  go_wp2_with fail
  refine (rf_low _ B v xs s.length 2 _ rfl (by omega) (by omega) H.out.2 (by omega) hB).mono ?_
  rintro e W1 ⟨v1, rfl, hown1, hg1⟩
  have hz1 := hg1.size
  have H1 := hid (And.intro hown1 hg1)
  clear hown1 hg1
  go_wp2_with (at_builtin; refine wpList_bytes H.out.1 _ rfl _ _ _ rfl B _ (xs ++ lowB s.length 2) rfl H1.out.1 _ s rfl (Src.ofMkS _ un_strS s) ?c3 ?c4 ?_)
  case c3 => rw [List.length_append, lowB_length]; exact hlen
  case c4 => omega
  intro v2 W2 hown2 hg2
  have hown2 : OB W2 B 5 v2 (xs ++ nmB s) := hown2
  have H2 := hid (And.intro hown2 (H1.out.2.trans hg2))
  clear hown2 hg2
  go_wp2
  go_ret
  exact ⟨v2, rfl, H2.out.1, H2.out.2⟩

set_option maxHeartbeats 400000 in
theorem rf_blob (w : World) (B : Nat) (v : Value) (xs s : List UInt8) (p : Option Addr) (cap : Nat) (hx : BS w (.slice p s.length cap) s) (hp : ∀ k, inBlk (.slice p s.length cap) k → k < B) (hown : OB w B 5 v xs) (hlen : xs.length + 4 + s.length ≤ 140737488355328) (hB : B ≤ w.heap.size) :
    Calls Tryz.prog 45 #[v, .slice p s.length cap] w (GrewTo w B v (xs ++ blB s)) := by
  obtain ⟨i, R⟩ := u8rowS
  have hw1 : IntKind.u64.wrap (s.length : Int) = s.length := IntWalk.u64_in _ (by omega)
  have H := hid (And.intro R (And.intro hown (And.intro hx hp)))
  clear R hown hx hp
  go_enter Tryz.func45, Tryz.ntmps45
  go_wp2_with fail
  refine (rf_low _ B v xs s.length 4 _ rfl (by omega) (by omega) H.out.2.1 (by omega) hB).mono ?_
  rintro e W1 ⟨v1, rfl, hown1, hg1⟩
  have hz1 := hg1.size
  have hx1 := H.out.2.2.1.under (hg1.below hB H.out.2.1.high) H.out.2.2.2
  have H1 := hid (And.intro hown1 (And.intro hg1 (Src.ofBS (P := Tryz.prog) un_bsS hx1)))
  clear hown1 hg1 hx1
  go_wp2_with (at_builtin; refine wpList_bytes H.out.1 _ rfl _ _ _ rfl B _ (xs ++ lowB s.length 4) rfl H1.out.1 _ s rfl H1.out.2.2 ?c3 ?c4 ?_)
  case c3 => rw [List.length_append, lowB_length]; exact hlen
  case c4 => omega
  intro v2 W2 hown2 hg2
  have hown2 : OB W2 B 5 v2 (xs ++ blB s) := hown2
  have H2 := hid (And.intro hown2 (H1.out.2.1.trans hg2))
  clear hown2 hg2
  go_wp2
  go_ret
  exact ⟨v2, rfl, H2.out.1, H2.out.2⟩
end Go.Proofs.YtfkpbgookilhjaaGreatDoor

namespace Go.Proofs.YtfkpbgookilhjaaGreatDoor
set_option linter.unusedSimpArgs false
set_option linter.unusedVariables false
open Go.RowKit

/-- The struct in the block c holds the slice v of the call's own, which reads as xs. -/
structure Wr (W : World) (c B : Nat) (v : Value) (xs : List UInt8) : Prop where
  box : W.heap[c]? = some (.cells #[v] 59 (0, 0))
  own : OB W B 5 v xs
  ne : v.ownBlock ≠ some c

/-- No other block was touched on the way. -/
structure Wrote (w w' : World) (c : Nat) (v v' : Value) : Prop where
  os : w'.os = w.os
  tape : w'.tape = w.tape
  output : w'.output = w.output
  size : w.heap.size ≤ w'.heap.size
  block : ∀ k, k < w.heap.size → k ≠ c → v.ownBlock ≠ some k → w'.heap[k]? = w.heap[k]?
  lies : v'.ownBlock = v.ownBlock ∨ ∃ k, v'.ownBlock = some k ∧ w.heap.size ≤ k
theorem Wrote.refl (w : World) (c : Nat) (v : Value) : Wrote w w c v v := ⟨rfl, rfl, rfl, Nat.le_refl _, fun _ _ _ _ => rfl, .inl rfl⟩
theorem Wrote.trans {a b d : World} {c : Nat} {u v x : Value} (h : Wrote a b c u v) (k : Wrote b d c v x) : Wrote a d c u x := by
  refine ⟨k.os.trans h.os, k.tape.trans h.tape, k.output.trans h.output, Nat.le_trans h.size k.size, fun i hi hc hu => ?_, ?_⟩
  · refine (k.block i (Nat.lt_of_lt_of_le hi h.size) hc fun e => ?_).trans (h.block i hi hc hu)
    rcases h.lies with h1 | ⟨j, h1, h2⟩
    · exact hu (h1.symm.trans e)
    · rw [h1] at e; cases e; omega
  · rcases k.lies with k1 | ⟨j, k1, k2⟩
    · rcases h.lies with h1 | ⟨j, h1, h2⟩
      · exact .inl (k1.trans h1)
      · exact .inr ⟨j, k1.trans h1, h2⟩
    · exact .inr ⟨j, k1, Nat.le_trans h.size k2⟩
/-- New blocks ahead of it; and behind it. -/
theorem Wrote.under {w w1 w' : World} {c : Nat} {v v' : Value} (hb : Below w.heap.size w w1) (h : Wrote w1 w' c v v') : Wrote w w' c v v' := by
  refine ⟨h.os.trans hb.os, h.tape.trans hb.tape, h.output.trans hb.output, Nat.le_trans hb.size h.size, fun i hi hc hv => (h.block i (Nat.lt_of_lt_of_le hi hb.size) hc hv).trans (hb.block i hi), ?_⟩
  rcases h.lies with h1 | ⟨j, h1, h2⟩
  · exact .inl h1
  · exact .inr ⟨j, h1, Nat.le_trans hb.size h2⟩
theorem Wrote.over {w w1 w' : World} {c : Nat} {v v' : Value} (h : Wrote w w1 c v v') (hb : Below w1.heap.size w1 w') : Wrote w w' c v v' :=
  ⟨hb.os.trans h.os, hb.tape.trans h.tape, hb.output.trans h.output, Nat.le_trans h.size hb.size, fun i hi hc hv => (hb.block i (Nat.lt_of_lt_of_le hi h.size)).trans (h.block i hi hc hv), h.lies⟩
/-- An append, and the slice put back. -/
theorem Wrote.put {w w1 : World} {c : Nat} {v v' : Value} (h : Grew w w1 v v') (hc : c < w.heap.size) : Wrote w (w1.setCell ⟨c, 0, none⟩ v') c v v' := by
  refine ⟨h.by_.os, h.by_.tape, h.by_.output, by simpa [World.setCell] using h.size, fun k hk hkc hv => ?_, h.lies⟩
  rw [heap_setCell_other _ _ k _ (by simpa using hkc)]
  exact h.block hk hv
theorem Wrote.below {w w' : World} {c B : Nat} {v v' : Value} (h : Wrote w w' c v v') (hB : B ≤ c) (hw : B ≤ w.heap.size) (hv : ∀ k, v.ownBlock = some k → B ≤ k) : Below B w w' :=
  ⟨h.os, h.tape, h.output, h.size, fun k hk => h.block k (by omega) (by omega) (fun e => by have := hv k e; omega)⟩
theorem Wr.put {w w1 : World} {c B : Nat} {v v' : Value} {xs ys : List UInt8} (h : Wr w c B v xs) (hg : Grew w w1 v v') (ho : OB w1 B 5 v' ys) : Wr (w1.setCell ⟨c, 0, none⟩ v') c B v' ys := by
  have hc := (Array.getElem?_eq_some_iff.1 h.box).1
  have hb1 := (hg.block hc h.ne).trans h.box
  have hne : v'.ownBlock ≠ some c := by
    rcases hg.lies with h1 | ⟨j, h1, h2⟩
    · rw [h1]; exact h.ne
    · rw [h1]; intro e; cases e; omega
  refine ⟨heap_setCell_same _ _ _ _ _ _ hb1, ?_, hne⟩
  have hkept : w1.grownBy (w1.setCell ⟨c, 0, none⟩ v') (some c) := ⟨rfl, rfl, rfl, by simp [World.setCell], fun k hk hr => heap_setCell_other w1 _ k v' (fun e => hr (by simp at e; rw [e]))⟩
  exact World.ownsRow.kept ho hkept (.inr hne)
theorem Wr.below {w w' : World} {c B : Nat} {v : Value} {xs : List UInt8} (h : Wr w c B v xs) (hb : Below w.heap.size w w') : Wr w' c B v xs :=
  ⟨(hb.block _ (Array.getElem?_eq_some_iff.1 h.box).1).trans h.box, h.own.below hb, h.ne⟩
theorem Wr.high {w : World} {c B : Nat} {v : Value} {xs : List UInt8} (h : Wr w c B v xs) : ∀ k, v.ownBlock = some k → B ≤ k := h.own.high
/-- Whatever does not lie in the writer reads on. -/
theorem BS.wrote {w w' : World} {c : Nat} {v v' u : Value} {l : List UInt8} (h : BS w u l) (hw : Wrote w w' c v v') (hc : ∀ k, inBlk u k → k ≠ c ∧ v.ownBlock ≠ some k) : BS w' u l :=
  h.of_block fun k hk hlt => hw.block k hlt (hc k hk).1 (hc k hk).2
end Go.Proofs.YtfkpbgookilhjaaGreatDoor

namespace Go.Proofs.YtfkpbgookilhjaaGreatDoor
set_option linter.unusedSimpArgs false
set_option linter.unusedVariables false
open Go.RowKit

/-- 'append' onto a slice of the call's own at a step of a region that draws its order. -/
theorem step_grew {P : Program} (w : World) {ops : Array Oper} {o : Oper} {a : Act} {K : Act → World → Prop} {Q : Exit → Act → World → Prop} {E : Prop} (hgd : o.guard = none) (s y : Operand) (t tx : TypeId)
    (ho : o.op = .call { callee := .builtin .append, args := #[s, y], argTypes := #[t, tx] })
    (base : Nat) (e : TypeId) (i : TypeInfo) (z : Value) (size bytes : Nat) (ht : P.underlying t = some (.slice e)) (hi : P.info? e = some i) (hz : i.zero = some z)
    (hsize : i.size = size) (hby : i.bytes = bytes) (hzs : z.cells.size = size)
    (v : Value) (n : Nat) (xs : List Value) (hsv : a.eval s = v) (hown : w.ownsRow base e size v n xs)
    (x : Value) (m : Nat) (news : List Value) (hx : a.eval y = x) (hs : Src P size tx x m news w)
    (h63 : n + m ≤ maxLen) (hbytes : (n + m) * bytes ≤ 140737488355328) (hbase : base ≤ w.heap.size)
    (h : ∀ v' w', w'.ownsRow base e size v' (n + m) (xs ++ news) → Grew w w' v v' → K (a.put o.dst v') w') : if Region.wanted o (yielded ops a.tmps) = true then Oper.wp P o a w K Q else E := by
  have hw : Region.wanted o (yielded ops a.tmps) = true := by simp [Region.wanted, hgd]
  rw [if_pos hw]
  obtain ⟨v', w', hr, h2, h3⟩ := run_append_grew w base t tx o.type e i z size bytes ht hi hz hsize hby hzs v n xs hown x m news hs h63 hbytes hbase
  unfold Oper.wp execOp
  simp only [ho, resolve, invoke, builtin, Sem.run_bind, Sem.run_pure, Result.andThen_ok, List.map_toArray, List.map_cons, List.map_nil, hsv, hx, hr]
  exact h v' w' h2 h3

theorem owns_drew {w : World} {base : Nat} {e : TypeId} {size : Nat} {v : Value} {n : Nat} {xs : List Value} (h : w.ownsRow base e size v n xs) : w.drew.ownsRow base e size v n xs := h
/-- Cells that were just laid, as what is appended; behind a draw. -/
theorem src_laidD {P : Program} (w : World) {size : Nat} {tx e' t : TypeId} (hk : P.underlying tx = some (.slice e')) (news : List Value) (m : Nat) (hl : news.length = m * size) (h1 : ∀ u ∈ news, u.oneCell' = true) (fr : Nat × Nat) {B : Nat} (hB : w.heap.size = B) :
    Src P size tx (.slice (some ⟨B, 0, none⟩) m m) m news (w.alloc (.cells news.toArray t fr)).drew := by
  subst hB
  refine Src.ofSlice _ hk _ m m news hl (fun j x hx => ?_) h1
  have ea : (⟨w.heap.size, 0, none⟩ : Addr).add j = ⟨w.heap.size, j, none⟩ := by unfold Addr.add; split <;> simp_all
  rw [ea]
  show (w.alloc (.cells news.toArray t fr)).cell? _ = _
  rw [cell_of_row _ _ j _ _ _ (heap_alloc_new w _)]
  simpa using hx
theorem grew_drew {w w' : World} {v v' : Value} (h : Grew w.drew w' v v') : Grew w w' v v' := ⟨⟨h.by_.os, h.by_.tape, h.by_.output, h.by_.size, h.by_.block⟩, h.lies⟩

/-- One byte that was just laid; behind a draw. -/
theorem src_byteD {P : Program} (w : World) {tx e' t : TypeId} (hk : P.underlying tx = some (.slice e')) (x : Int) (y : UInt8) (hx : x = (y.toNat : Int)) (fr : Nat × Nat) {B : Nat} (hB : w.heap.size = B) :
    Src P 1 tx (.slice (some ⟨B, 0, none⟩) 1 1) [y].length (u8s [y]) (w.alloc (.cells #[.int .u8 x] t fr)).drew := by
  subst hx
  exact src_laidD w hk (u8s [y]) 1 rfl (by simp [u8s, Value.oneCell']) fr hB
end Go.Proofs.YtfkpbgookilhjaaGreatDoor
