/- 'append' onto a slice of the call's own, of whatever is appended: a slice, nil, a string's bytes. Plain laws, over any program. -/
import Derived.Test.YtjfkgdfmkofbmaaGreatDoorZKit
import Derived.Deep.AppendSrc
namespace Go.Proofs.YtjfkgdfmkofbmaaGreatDoor
set_option linter.unusedSimpArgs false
set_option linter.unusedVariables false
open Go.RowKit

section
variable {P : Program} (w : World)

theorem run_append_room_own (t tx ty e : TypeId) (i : TypeInfo) (ht : P.underlying t = some (.slice e)) (hi : P.info? e = some i)
    (g sLen sCap : Nat) (cur : Array Value) (hg : w.heap[g]? = some (.cells cur e (0, 0))) (x : Value) (m : Nat) (news : List Value) (hs : Src P i.size tx x m news w)
    (hroom : sLen + m ≤ sCap) (hfit : sLen * i.size + news.length ≤ cur.size) :
    (Builtin.append_ #[t, tx] ty #[.slice (some ⟨g, 0, none⟩) sLen sCap, x]).run P w =
      .ok (.slice (some ⟨g, 0, none⟩) (sLen + m) sCap) (w.setRow g (cur.toList.take (sLen * i.size) ++ news ++ cur.toList.drop (sLen * i.size + news.length)).toArray) := by
  have hst := run_storeCells_at P g (sLen * i.size) e news 0 cur w hg (by simpa using hfit) hs.one
  simp only [Nat.add_zero] at hst
  rcases hs.kind with ⟨e', hk⟩ | hk <;> simp [Builtin.append_, run_underlying ht, run_underlying hk, sizeOf, typeInfo, hi, hs.len, hroom, hs.cells, Addr.add_lit, hst]

theorem run_append_src (base : Nat) (t tx ty e : TypeId) (i : TypeInfo) (z : Value) (size bytes : Nat) (ht : P.underlying t = some (.slice e)) (hi : P.info? e = some i) (hz : i.zero = some z)
    (hsize : i.size = size) (hby : i.bytes = bytes) (hzs : z.cells.size = size)
    (v : Value) (n : Nat) (xs : List Value) (hown : w.ownsRow base e size v n xs)
    (x : Value) (m : Nat) (news : List Value) (hs : Src P size tx x m news w)
    (h63 : n + m ≤ maxLen) (hbytes : (n + m) * bytes ≤ 140737488355328) (hbase : base ≤ w.heap.size) :
    ∃ v' w', (Builtin.append_ #[t, tx] ty #[v, x]).run P w = .ok v' w' ∧ w'.ownsRow base e size v' (n + m) (xs ++ news) ∧ w.grownBy w' v.ownBlock := by
  subst hsize
  subst hby
  have hl := hs.newsLen
  have hlen : (xs ++ news).length = (n + m) * i.size := by rw [List.length_append, hown.1, hl, Nat.add_mul]
  have hsmall : ((n + m : Nat) : Int) ≤ 9223372036854775807 := by simp only [maxLen] at h63; omega
  have grown : ∀ (old : Nat), old < n + m → ∀ (row : Option Nat),
      (w.drew.alloc (.cells ((xs ++ news).toArray ++ Builtin.zeroCells z.cells (grownCap w (n + m) old e - (n + m))) e)).ownsRow base e i.size
        (.slice (some ⟨w.heap.size, 0, none⟩) (n + m) (grownCap w (n + m) old e)) (n + m) (xs ++ news) ∧
      w.grownBy (w.drew.alloc (.cells ((xs ++ news).toArray ++ Builtin.zeroCells z.cells (grownCap w (n + m) old e - (n + m))) e)) row := by
    intro old ho row
    have hge := grownCap_ge w (n + m) old e
    have hcm : grownCap w (n + m) old e ≤ maxLen := grownCap_le_maxLen w (n + m) old e h63
    refine ⟨⟨hlen, .inr ⟨w.heap.size, _, _, rfl, hbase, heap_alloc_new w.drew _, hge, hcm, ?_, ?_⟩⟩, ⟨rfl, rfl, rfl, by simp, fun k hk _ => Below.heap_alloc w.drew _ k hk⟩⟩
    · simp only [Array.size_append, List.size_toArray, size_zeroCells, hzs, hlen, ← Nat.add_mul]
      congr 1
      omega
    · rw [Array.toList_append, ← hlen]
      exact List.take_left
  rcases hown.2 with ⟨rfl, rfl⟩ | ⟨g, cap, cur, rfl, hbg, hg, hnc, hcm, hcs, htake⟩
  · have hx : xs = [] := List.eq_nil_of_length_eq_zero (by simpa using hown.1)
    subst hx
    by_cases hm : m = 0
    · subst hm
      have hn : news = [] := List.eq_nil_of_length_eq_zero (by simpa using hl)
      subst hn
      refine ⟨.slice none 0 0, w, ?_, World.ownsRow_nil w base e i.size, ⟨rfl, rfl, rfl, Nat.le_refl _, fun _ _ _ => rfl⟩⟩
      rcases hs.kind with ⟨e', hk⟩ | hk <;> simp [Builtin.append_, run_underlying ht, run_underlying hk, sizeOf, typeInfo, hi, hs.len, hs.cells, storeCells]
    · have hr := run_append_grow_src w t tx ty e i z ht hi hz none 0 0 [] (by simp [Builtin.firstCells]) x m news hs (by omega) (by simpa using hsmall) (growslice_fits (by omega) (by simpa using hbytes))
      have hgr := grown 0 (by omega) (Value.ownBlock (.slice none 0 0))
      simp only [Nat.zero_add, List.nil_append] at hgr hr ⊢
      exact ⟨_, _, hr, hgr.1, hgr.2⟩
  · by_cases hroom : n + m ≤ cap
    · have hfit : n * i.size + news.length ≤ cur.size := by rw [hl, hcs, ← Nat.add_mul]; exact Nat.mul_le_mul_right _ hroom
      have hr := run_append_room_own (P := P) w t tx ty e i ht hi g n cap cur hg x m news hs hroom hfit
      refine ⟨_, _, hr, ⟨hlen, .inr ⟨g, cap, _, rfl, hbg, setRow_heap w g cur _ e _ hg, hroom, hcm, ?_, ?_⟩⟩, ⟨rfl, rfl, rfl, by simp, fun k _ hk => setRow_other w g k _ (fun e => hk (by simp [Value.ownBlock, e]))⟩⟩
      · simp only [List.size_toArray, List.length_append, List.length_take, List.length_drop, Array.length_toList]
        omega
      · rw [htake, ← hlen]
        exact List.take_left
    · have holds : ∀ j u, xs[j]? = some u → w.cell? ((⟨g, 0, none⟩ : Addr).add j) = some u := hown.cells (g := g) rfl
      have hr := run_append_grow_src w t tx ty e i z ht hi hz (some ⟨g, 0, none⟩) n cap xs (run_firstCells_some w.drew i.size n ⟨g, 0, none⟩ n cap xs hown.1 (by simpa using holds)) x m news hs (by omega) hsmall (growslice_fits (by omega) hbytes)
      have hgr := grown cap (by omega) (Value.ownBlock (.slice (some ⟨g, 0, none⟩) n cap))
      exact ⟨_, _, hr, hgr.1, hgr.2⟩

theorem wpList_append_src {ops : Array Oper} {rest : List Oper} {o : Oper} {a : Act} {Q : Exit → Act → World → Prop} (hgd : o.guard = none) (s y : Operand) (t tx : TypeId)
    (ho : o.op = .call { callee := .builtin .append, args := #[s, y], argTypes := #[t, tx] })
    (base : Nat) (e : TypeId) (i : TypeInfo) (z : Value) (size bytes : Nat) (ht : P.underlying t = some (.slice e)) (hi : P.info? e = some i) (hz : i.zero = some z)
    (hsize : i.size = size) (hby : i.bytes = bytes) (hzs : z.cells.size = size)
    (v : Value) (n : Nat) (xs : List Value) (hsv : a.eval s = v) (hown : w.ownsRow base e size v n xs)
    (x : Value) (m : Nat) (news : List Value) (hx : a.eval y = x) (hs : Src P size tx x m news w)
    (h63 : n + m ≤ maxLen) (hbytes : (n + m) * bytes ≤ 140737488355328) (hbase : base ≤ w.heap.size)
    (h : ∀ v' w', w'.ownsRow base e size v' (n + m) (xs ++ news) → w.grownBy w' v.ownBlock → wpList P ops Q rest (a.put o.dst v') w') : wpList P ops Q (o :: rest) a w := by
  refine wpList_plain hgd fun K hK => ?_
  obtain ⟨v', w', hr, h2, h3⟩ := run_append_src w base t tx o.type e i z size bytes ht hi hz hsize hby hzs v n xs hown x m news hs h63 hbytes hbase
  unfold Oper.wp execOp
  simp only [ho, resolve, invoke, builtin, Sem.run_bind, Sem.run_pure, Result.andThen_ok, List.map_toArray, List.map_cons, List.map_nil, hsv, hx, hr]
  exact hK _ _ (h v' w' h2 h3)
end

/-- A slice of bytes, as what is appended. -/
theorem Src.ofBS {P : Program} {w : World} {tx e' : TypeId} (hk : P.underlying tx = some (.slice e')) {p : Option Addr} {n cap : Nat} {l : List UInt8} (h : BS w (.slice p n cap) l) : Src P 1 tx (.slice p n cap) n (u8s l) w := by
  have hl := h.len
  rcases Nat.eq_zero_or_pos n with hn | hn
  · subst hn
    obtain rfl : l = [] := List.eq_nil_of_length_eq_zero hl
    cases p with
    | none => exact Src.ofNil w hk cap
    | some a => exact Src.ofSlice w hk a 0 cap [] (by simp) (by simp) (by simp)
  · obtain ⟨b, off, rfl, hc⟩ := h.at hn
    refine Src.ofSlice w hk _ n cap (u8s l) (by simp [u8s, hl]) (fun j u hu => ?_) (fun u hu => ?_)
    · have hu' : (l[j]?).map (fun x : UInt8 => Value.int .u8 (x.toNat : Int)) = some u := by simpa [u8s] using hu
      obtain ⟨y, hy, rfl⟩ := Option.map_eq_some_iff.1 hu'
      have e1 : (⟨b, off, none⟩ : Addr).add j = ⟨b, off + j, none⟩ := by unfold Addr.add; split <;> simp_all
      rw [e1]; exact hc j y hy
    · obtain ⟨y, _, rfl⟩ := List.mem_map.1 hu
      rfl

theorem byteCells_mkS (l : List UInt8) : byteCells (mkS l) = u8s l := rfl

/-- A string's bytes, as what is appended. -/
theorem Src.ofMkS {P : Program} (w : World) {tx : TypeId} (hk : P.underlying tx = some .string) (l : List UInt8) : Src P 1 tx (.string (mkS l)) l.length (u8s l) w := by
  have := Src.ofString (P := P) w hk (mkS l)
  rw [mkS_size] at this
  exact this

end Go.Proofs.YtjfkgdfmkofbmaaGreatDoor

namespace Go.Proofs.YtjfkgdfmkofbmaaGreatDoor
set_option linter.unusedSimpArgs false
set_option linter.unusedVariables false
open Go.RowKit

/-- The slice v' took the place of v on the way from w to w': no other block that was there is touched; v' lies where v lay, or in a new block. -/
structure Grew (w w' : World) (v v' : Value) : Prop where
  by_ : w.grownBy w' v.ownBlock
  lies : v'.ownBlock = v.ownBlock ∨ ∃ k, v'.ownBlock = some k ∧ w.heap.size ≤ k

theorem Grew.refl (w : World) (v : Value) : Grew w w v v := ⟨⟨rfl, rfl, rfl, Nat.le_refl _, fun _ _ _ => rfl⟩, .inl rfl⟩

theorem Grew.trans {a b c : World} {u v x : Value} (h : Grew a b u v) (k : Grew b c v x) : Grew a c u x := by
  refine ⟨⟨k.by_.os.trans h.by_.os, k.by_.tape.trans h.by_.tape, k.by_.output.trans h.by_.output, Nat.le_trans h.by_.size k.by_.size, fun i hi hr => ?_⟩, ?_⟩
  · refine (k.by_.block i (Nat.lt_of_lt_of_le hi h.by_.size) fun e => ?_).trans (h.by_.block i hi hr)
    rcases h.lies with h1 | ⟨j, h1, h2⟩
    · exact hr (e.trans h1)
    · rw [h1] at e; cases e; omega
  · rcases k.lies with k1 | ⟨j, k1, k2⟩
    · rcases h.lies with h1 | ⟨j, h1, h2⟩
      · exact .inl (k1.trans h1)
      · exact .inr ⟨j, k1.trans h1, h2⟩
    · exact .inr ⟨j, k1, Nat.le_trans h.by_.size k2⟩

/-- New blocks ahead of it. -/
theorem Grew.under {w w1 w' : World} {v v' : Value} (hb : Below w.heap.size w w1) (h : Grew w1 w' v v') : Grew w w' v v' := by
  refine ⟨⟨h.by_.os.trans hb.os, h.by_.tape.trans hb.tape, h.by_.output.trans hb.output, Nat.le_trans hb.size h.by_.size, fun i hi hr => (h.by_.block i (Nat.lt_of_lt_of_le hi hb.size) hr).trans (hb.block i hi)⟩, ?_⟩
  rcases h.lies with h1 | ⟨j, h1, h2⟩
  · exact .inl h1
  · exact .inr ⟨j, h1, Nat.le_trans hb.size h2⟩

/-- .. and behind it. -/
theorem Grew.over {w w1 w' : World} {v v' : Value} (h : Grew w w1 v v') (hb : Below w1.heap.size w1 w') : Grew w w' v v' :=
  ⟨⟨hb.os.trans h.by_.os, hb.tape.trans h.by_.tape, hb.output.trans h.by_.output, Nat.le_trans h.by_.size hb.size, fun i hi hr => (hb.block i (Nat.lt_of_lt_of_le hi h.by_.size)).trans (h.by_.block i hi hr)⟩, h.lies⟩

theorem Grew.alloc {w w' : World} {v v' : Value} (h : Grew w w' v v') (o : Obj) : Grew w (w'.alloc o) v v' := h.over ((Below.refl _ _).alloc (Nat.le_refl _) _)

theorem Grew.size {w w' : World} {v v' : Value} (h : Grew w w' v v') : w.heap.size ≤ w'.heap.size := h.by_.size

/-- A block that is not the slice's. -/
theorem Grew.block {w w' : World} {v v' : Value} (h : Grew w w' v v') {k : Nat} (hk : k < w.heap.size) (hne : v.ownBlock ≠ some k) : w'.heap[k]? = w.heap[k]? :=
  h.by_.block k hk (fun e => hne e.symm)

/-- All below a bound, where the slice lies above it. -/
theorem Grew.below {w w' : World} {v v' : Value} (h : Grew w w' v v') {B : Nat} (hB : B ≤ w.heap.size) (hne : ∀ k, v.ownBlock = some k → B ≤ k) : Below B w w' :=
  (Below.refl _ _).grown h.by_ hB hne

/-- Two slices that lie apart. -/
def Apart (u v : Value) : Prop := ∀ k, u.ownBlock = some k → v.ownBlock ≠ some k

theorem Apart.symm {u v : Value} (h : Apart u v) : Apart v u := fun k hk e => h k e hk
theorem Apart.nil (v : Value) : Apart (.slice none 0 0) v := fun k hk => by cases hk
theorem Apart.nil' (v : Value) (n c : Nat) : Apart (.slice none n c) v := fun k hk => by cases hk

theorem Grew.own {w w' : World} {v v' u : Value} {base : Nat} {e : TypeId} {size n : Nat} {xs : List Value} (h : Grew w w' v v') (hu : w.ownsRow base e size u n xs) (ha : Apart u v) : w'.ownsRow base e size u n xs := by
  refine hu.kept h.by_ ?_
  cases hb : u.ownBlock with
  | none => exact .inl rfl
  | some k => exact .inr (fun e => ha k hb e.symm)

theorem Grew.apart {w w' : World} {v v' u : Value} {base : Nat} {e : TypeId} {size n : Nat} {xs : List Value} (h : Grew w w' v v') (hu : w.ownsRow base e size u n xs) (ha : Apart u v) : Apart u v' := by
  intro k hk e'
  rcases h.lies with h1 | ⟨j, h1, h2⟩
  · exact ha k hk (h1.symm.trans e')
  · rw [h1] at e'; cases e'
    have := (hu.lt k hk).2
    omega

/-- Its own row, and where its block lies. -/
theorem Grew.high {w w' : World} {v v' : Value} (h : Grew w w' v v') {B : Nat} (hB : B ≤ w.heap.size) (hne : ∀ k, v.ownBlock = some k → B ≤ k) : ∀ k, v'.ownBlock = some k → B ≤ k := by
  intro k hk
  rcases h.lies with h1 | ⟨j, h1, h2⟩
  · exact hne k (h1.symm.trans hk)
  · rw [h1] at hk; cases hk; omega

section
variable {P : Program} (w : World)

theorem run_append_grew (base : Nat) (t tx ty e : TypeId) (i : TypeInfo) (z : Value) (size bytes : Nat) (ht : P.underlying t = some (.slice e)) (hi : P.info? e = some i) (hz : i.zero = some z)
    (hsize : i.size = size) (hby : i.bytes = bytes) (hzs : z.cells.size = size)
    (v : Value) (n : Nat) (xs : List Value) (hown : w.ownsRow base e size v n xs)
    (x : Value) (m : Nat) (news : List Value) (hs : Src P size tx x m news w)
    (h63 : n + m ≤ maxLen) (hbytes : (n + m) * bytes ≤ 140737488355328) (hbase : base ≤ w.heap.size) :
    ∃ v' w', (Builtin.append_ #[t, tx] ty #[v, x]).run P w = .ok v' w' ∧ w'.ownsRow base e size v' (n + m) (xs ++ news) ∧ Grew w w' v v' := by
  subst hsize
  subst hby
  have hl := hs.newsLen
  have hlen : (xs ++ news).length = (n + m) * i.size := by rw [List.length_append, hown.1, hl, Nat.add_mul]
  have hsmall : ((n + m : Nat) : Int) ≤ 9223372036854775807 := by simp only [maxLen] at h63; omega
  have grown : ∀ (old : Nat), old < n + m → ∀ (u : Value),
      (w.drew.alloc (.cells ((xs ++ news).toArray ++ Builtin.zeroCells z.cells (grownCap w (n + m) old e - (n + m))) e)).ownsRow base e i.size
        (.slice (some ⟨w.heap.size, 0, none⟩) (n + m) (grownCap w (n + m) old e)) (n + m) (xs ++ news) ∧
      Grew w (w.drew.alloc (.cells ((xs ++ news).toArray ++ Builtin.zeroCells z.cells (grownCap w (n + m) old e - (n + m))) e)) u (.slice (some ⟨w.heap.size, 0, none⟩) (n + m) (grownCap w (n + m) old e)) := by
    intro old ho u
    have hge := grownCap_ge w (n + m) old e
    have hcm : grownCap w (n + m) old e ≤ maxLen := grownCap_le_maxLen w (n + m) old e h63
    refine ⟨⟨hlen, .inr ⟨w.heap.size, _, _, rfl, hbase, heap_alloc_new w.drew _, hge, hcm, ?_, ?_⟩⟩, ⟨⟨rfl, rfl, rfl, by simp, fun k hk _ => Below.heap_alloc w.drew _ k hk⟩, .inr ⟨_, rfl, Nat.le_refl _⟩⟩⟩
    · simp only [Array.size_append, List.size_toArray, size_zeroCells, hzs, hlen, ← Nat.add_mul]
      congr 1
      omega
    · rw [Array.toList_append, ← hlen]
      exact List.take_left
  rcases hown.2 with ⟨rfl, rfl⟩ | ⟨g, cap, cur, rfl, hbg, hg, hnc, hcm, hcs, htake⟩
  · have hx : xs = [] := List.eq_nil_of_length_eq_zero (by simpa using hown.1)
    subst hx
    by_cases hm : m = 0
    · subst hm
      have hn : news = [] := List.eq_nil_of_length_eq_zero (by simpa using hl)
      subst hn
      refine ⟨.slice none 0 0, w, ?_, World.ownsRow_nil w base e i.size, Grew.refl _ _⟩
      rcases hs.kind with ⟨e', hk⟩ | hk <;> simp [Builtin.append_, run_underlying ht, run_underlying hk, sizeOf, typeInfo, hi, hs.len, hs.cells, storeCells]
    · have hr := run_append_grow_src w t tx ty e i z ht hi hz none 0 0 [] (by simp [Builtin.firstCells]) x m news hs (by omega) (by simpa using hsmall) (growslice_fits (by omega) (by simpa using hbytes))
      have hgr := grown 0 (by omega) (.slice none 0 0)
      simp only [Nat.zero_add, List.nil_append] at hgr hr ⊢
      exact ⟨_, _, hr, hgr.1, hgr.2⟩
  · by_cases hroom : n + m ≤ cap
    · have hfit : n * i.size + news.length ≤ cur.size := by rw [hl, hcs, ← Nat.add_mul]; exact Nat.mul_le_mul_right _ hroom
      have hr := run_append_room_own (P := P) w t tx ty e i ht hi g n cap cur hg x m news hs hroom hfit
      refine ⟨_, _, hr, ⟨hlen, .inr ⟨g, cap, _, rfl, hbg, setRow_heap w g cur _ e _ hg, hroom, hcm, ?_, ?_⟩⟩, ⟨⟨rfl, rfl, rfl, by simp, fun k _ hk => setRow_other w g k _ (fun e => hk (by simp [Value.ownBlock, e]))⟩, .inl rfl⟩⟩
      · simp only [List.size_toArray, List.length_append, List.length_take, List.length_drop, Array.length_toList]
        omega
      · rw [htake, ← hlen]
        exact List.take_left
    · have holds : ∀ j u, xs[j]? = some u → w.cell? ((⟨g, 0, none⟩ : Addr).add j) = some u := hown.cells (g := g) rfl
      have hr := run_append_grow_src w t tx ty e i z ht hi hz (some ⟨g, 0, none⟩) n cap xs (run_firstCells_some w.drew i.size n ⟨g, 0, none⟩ n cap xs hown.1 (by simpa using holds)) x m news hs (by omega) hsmall (growslice_fits (by omega) hbytes)
      have hgr := grown cap (by omega) (.slice (some ⟨g, 0, none⟩) n cap)
      exact ⟨_, _, hr, hgr.1, hgr.2⟩

theorem wpList_append_grew {ops : Array Oper} {rest : List Oper} {o : Oper} {a : Act} {Q : Exit → Act → World → Prop} (hgd : o.guard = none) (s y : Operand) (t tx : TypeId)
    (ho : o.op = .call { callee := .builtin .append, args := #[s, y], argTypes := #[t, tx] })
    (base : Nat) (e : TypeId) (i : TypeInfo) (z : Value) (size bytes : Nat) (ht : P.underlying t = some (.slice e)) (hi : P.info? e = some i) (hz : i.zero = some z)
    (hsize : i.size = size) (hby : i.bytes = bytes) (hzs : z.cells.size = size)
    (v : Value) (n : Nat) (xs : List Value) (hsv : a.eval s = v) (hown : w.ownsRow base e size v n xs)
    (x : Value) (m : Nat) (news : List Value) (hx : a.eval y = x) (hs : Src P size tx x m news w)
    (h63 : n + m ≤ maxLen) (hbytes : (n + m) * bytes ≤ 140737488355328) (hbase : base ≤ w.heap.size)
    (h : ∀ v' w', w'.ownsRow base e size v' (n + m) (xs ++ news) → Grew w w' v v' → wpList P ops Q rest (a.put o.dst v') w') : wpList P ops Q (o :: rest) a w := by
  refine wpList_plain hgd fun K hK => ?_
  obtain ⟨v', w', hr, h2, h3⟩ := run_append_grew w base t tx o.type e i z size bytes ht hi hz hsize hby hzs v n xs hown x m news hs h63 hbytes hbase
  unfold Oper.wp execOp
  simp only [ho, resolve, invoke, builtin, Sem.run_bind, Sem.run_pure, Result.andThen_ok, List.map_toArray, List.map_cons, List.map_nil, hsv, hx, hr]
  exact hK _ _ (h v' w' h2 h3)

/-- One cell that was just laid, as what is appended. -/
theorem Src.one (w : World) {tx e' t : TypeId} (hk : P.underlying tx = some (.slice e')) (u : Value) (hu : u.oneCell' = true) (m : Nat × Nat) : Src P 1 tx (.slice (some ⟨w.heap.size, 0, none⟩) 1 1) 1 [u] (w.alloc (.cells #[u] t m)) :=
  Src.ofSlice _ hk _ 1 1 [u] (by simp) (fun j x hx => by
    cases j with
    | zero =>
      simp at hx; subst hx
      show (w.alloc (.cells #[u] t m)).cell? ⟨w.heap.size, 0, none⟩ = some u
      rw [cell_of_row _ _ 0 _ _ _ (heap_alloc_new w _)]; rfl
    | succ j => simp at hx) (fun x hx => by simp at hx; subst hx; exact hu)
end

/-- Cells that were just laid, as what is appended. -/
theorem Src.laid {P : Program} (w : World) {size : Nat} {tx e' t : TypeId} (hk : P.underlying tx = some (.slice e')) (news : List Value) (m : Nat) (hl : news.length = m * size) (h1 : ∀ u ∈ news, u.oneCell' = true) (fr : Nat × Nat) {B : Nat} (hB : w.heap.size = B) :
    Src P size tx (.slice (some ⟨B, 0, none⟩) m m) m news (w.alloc (.cells news.toArray t fr)) := by
  subst hB
  refine Src.ofSlice _ hk _ m m news hl (fun j x hx => ?_) h1
  have ea : (⟨w.heap.size, 0, none⟩ : Addr).add j = ⟨w.heap.size, j, none⟩ := by unfold Addr.add; split <;> simp_all
  rw [ea, cell_of_row _ _ j _ _ _ (heap_alloc_new w _)]
  simpa using hx

/-- The row of the table of a []byte's elements, and the law of 'append' at a []byte. -/
structure U8Row (P : Program) (t e : TypeId) (i : TypeInfo) : Prop where
  un : P.underlying t = some (.slice e)
  hi : P.info? e = some i
  z : i.zero = some (.int .u8 0)
  size : i.size = 1
  bytes : i.bytes = 1

/-- A slice of bytes of the call's own. -/
def OB (w : World) (base : Nat) (e : TypeId) (v : Value) (l : List UInt8) : Prop := w.ownsRow base e 1 v l.length (u8s l)

theorem OB.nil (w : World) (base : Nat) (e : TypeId) : OB w base e (.slice none 0 0) [] := World.ownsRow_nil _ _ _ _
theorem OB.form {w : World} {base : Nat} {e : TypeId} {v : Value} {l : List UInt8} (h : OB w base e v l) : ∃ a cap, v = .slice a l.length cap := ownsRow_form h
theorem OB.own {w w' : World} {base : Nat} {e : TypeId} {u v v' : Value} {l : List UInt8} (hu : OB w base e u l) (h : Grew w w' v v') (ha : Apart u v) : OB w' base e u l := h.own hu ha
theorem OB.below {w w' : World} {base : Nat} {e : TypeId} {u : Value} {l : List UInt8} (hu : OB w base e u l) (h : Below w.heap.size w w') : OB w' base e u l := ownsRow_below hu h
theorem OB.base {w : World} {base base' : Nat} {e : TypeId} {u : Value} {l : List UInt8} (hu : OB w base e u l) (h : base' ≤ base) : OB w base' e u l := ownsRow_base hu h
theorem OB.high {w : World} {base : Nat} {e : TypeId} {u : Value} {l : List UInt8} (hu : OB w base e u l) : ∀ k, u.ownBlock = some k → base ≤ k := fun k hk => (hu.lt k hk).1
theorem OB.lt {w : World} {base : Nat} {e : TypeId} {u : Value} {l : List UInt8} (hu : OB w base e u l) : ∀ k, u.ownBlock = some k → k < w.heap.size := fun k hk => (World.ownsRow.lt hu k hk).2

/-- It reads as its bytes. -/
theorem OB.bs {w : World} {base : Nat} {e : TypeId} {v : Value} {l : List UInt8} (h : OB w base e v l) (hl : l.length ≤ 140737488355328) : BS w v l := by
  obtain ⟨p, cap, rfl, hb, -⟩ := BS.of_owns h hl
  exact hb

theorem OB.laid (w : World) {e : TypeId} (l : List UInt8) (hne : l.length ≤ 140737488355328) : OB (w.alloc (.cells (u8s l).toArray e)) w.heap.size e (.slice (some ⟨w.heap.size, 0, none⟩) l.length l.length) l :=
  ⟨by simp [u8s], .inr ⟨w.heap.size, l.length, (u8s l).toArray, rfl, Nat.le_refl _, heap_alloc_new w _, Nat.le_refl _, Nat.le_trans hne (by decide), by simp [u8s], List.take_of_length_le (by simp [u8s])⟩⟩

theorem u8s_app (a b : List UInt8) : u8s (a ++ b) = u8s a ++ u8s b := by simp [u8s]

/-- 'append(b, x...)' at a []byte of the call's own: 'refine wpList_bytes R .. (by rfl) (by rfl) ..; intro v' w' hown' hgrew'. -/
theorem wpList_bytes {P : Program} {t e : TypeId} {i : TypeInfo} (R : U8Row P t e i) (w : World) {ops : Array Oper} {rest : List Oper} {o : Oper} {a : Act} {Q : Exit → Act → World → Prop} (hgd : o.guard = none) (s y : Operand) (tx : TypeId)
    (ho : o.op = .call { callee := .builtin .append, args := #[s, y], argTypes := #[t, tx] }) (base : Nat)
    (v : Value) (xs : List UInt8) (hsv : a.eval s = v) (hown : OB w base e v xs) (x : Value) (ys : List UInt8) (hx : a.eval y = x) (hs : Src P 1 tx x ys.length (u8s ys) w)
    (hlen : xs.length + ys.length ≤ 140737488355328) (hbase : base ≤ w.heap.size)
    (h : ∀ v' w', OB w' base e v' (xs ++ ys) → Grew w w' v v' → wpList P ops Q rest (a.put o.dst v') w') : wpList P ops Q (o :: rest) a w :=
  wpList_append_grew w hgd s y t tx ho base e i _ 1 1 R.un R.hi R.z R.size R.bytes rfl v xs.length (u8s xs) hsv hown x ys.length (u8s ys) hx hs (Nat.le_trans hlen (by decide)) (by omega) hbase
    (fun v' w' h1 h2 => h v' w' (by unfold OB; rw [List.length_append, u8s_app]; exact h1) h2)

/-- The same at a step of a region that draws its order. -/
theorem step_bytes {P : Program} {t e : TypeId} {i : TypeInfo} (R : U8Row P t e i) (w : World) {ops : Array Oper} {o : Oper} {a : Act} {K : Act → World → Prop} {Q : Exit → Act → World → Prop} {E : Prop} (hgd : o.guard = none) (s y : Operand) (tx : TypeId)
    (ho : o.op = .call { callee := .builtin .append, args := #[s, y], argTypes := #[t, tx] }) (base : Nat)
    (v : Value) (xs : List UInt8) (hsv : a.eval s = v) (hown : OB w base e v xs) (x : Value) (ys : List UInt8) (hx : a.eval y = x) (hs : Src P 1 tx x ys.length (u8s ys) w)
    (hlen : xs.length + ys.length ≤ 140737488355328) (hbase : base ≤ w.heap.size)
    (h : ∀ v' w', OB w' base e v' (xs ++ ys) → Grew w w' v v' → K (a.put o.dst v') w') : if Region.wanted o (yielded ops a.tmps) = true then Oper.wp P o a w K Q else E := by
  have hw : Region.wanted o (yielded ops a.tmps) = true := by simp [Region.wanted, hgd]
  rw [if_pos hw]
  obtain ⟨v', w', hr, h2, h3⟩ := run_append_grew w base t tx o.type e i _ 1 1 R.un R.hi R.z R.size R.bytes rfl v xs.length (u8s xs) hown x ys.length (u8s ys) hs (Nat.le_trans hlen (by decide)) (by omega) hbase
  unfold Oper.wp execOp
  simp only [ho, resolve, invoke, builtin, Sem.run_bind, Sem.run_pure, Result.andThen_ok, List.map_toArray, List.map_cons, List.map_nil, hsv, hx, hr]
  exact h v' w' (by unfold OB; rw [List.length_append, u8s_app]; exact h2) h3

/-- A cell of another block. -/
theorem Grew.cell {w w' : World} {v v' : Value} (h : Grew w w' v v') {k o : Nat} {u : Value} (hu : w.cell? ⟨k, o, none⟩ = some u) (hne : v.ownBlock ≠ some k) : w'.cell? ⟨k, o, none⟩ = some u :=
  (World.cell?_of_block (h.block (World.block_lt_of_cell? w _ hu) hne)).trans hu

theorem below_cell' {B : Nat} {w w' : World} {a : Addr} {v : Value} (hb : Below B w w') (ha : a.block < B) (h : w.cell? a = some v) : w'.cell? a = some v := by
  rw [hb.cell ha]
  exact h

end Go.Proofs.YtjfkgdfmkofbmaaGreatDoor

namespace Go.Proofs.YtjfkgdfmkofbmaaGreatDoor
set_option linter.unusedSimpArgs false
set_option linter.unusedVariables false
open Go.RowKit

theorem Below.put {B : Nat} {w W W' : World} {X : Nat} (h : Below B w W) (hB : B ≤ w.heap.size) (hX : B ≤ X) (hg : W.grownBy W' (some X)) : Below B w W' :=
  ⟨hg.os.trans h.os, hg.tape.trans h.tape, hg.output.trans h.output, Nat.le_trans h.size hg.size, fun b hb => (hg.block b (Nat.lt_of_lt_of_le hb (Nat.le_trans hB h.size)) (fun e => by cases e; omega)).trans (h.block b hb)⟩
end Go.Proofs.YtjfkgdfmkofbmaaGreatDoor
