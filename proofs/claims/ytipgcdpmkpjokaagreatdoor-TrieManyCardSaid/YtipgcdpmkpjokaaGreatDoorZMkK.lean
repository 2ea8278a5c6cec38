/- Knots in memory, while they are tied: a row of them, each with children of its own. Plain laws over worlds. -/
import Derived.Test.YtipgcdpmkpjokaaGreatDoorZMkC
import Derived.Test.YtipgcdpmkpjokaaGreatDoorZRfL
namespace Go.Proofs.YtipgcdpmkpjokaaGreatDoor
set_option linter.unusedSimpArgs false
set_option linter.unusedVariables false
open Go.RowKit

/-- A knot in memory: its pointer, its children's slice, what it stands for. -/
structure KV where
  ptr : Value
  kv : Value
  kn : Knot

def KV.cells (x : KV) : List Value := [x.ptr, x.kv, .int .i64 0]
def kvs (L : List KV) : List Value := L.flatMap KV.cells
def kidCs (l : List (List UInt8 × Nat)) : List Value := l.flatMap fun r => [.string (mkS r.1), .int .i64 (r.2 : Int)]
def KV.zero : KV := ⟨.pointer none, .slice none 0 0, ⟨none, []⟩⟩

theorem kvs_length (L : List KV) : (kvs L).length = L.length * 3 := by
  induction L with
  | nil => rfl
  | cons x L ih => rw [kvs, List.flatMap_cons, List.length_append, List.length_cons]; rw [kvs] at ih; rw [ih]; show 3 + _ = _; omega
theorem kvs_app (a b : List KV) : kvs (a ++ b) = kvs a ++ kvs b := by simp [kvs]
theorem kidCs_app (a b : List (List UInt8 × Nat)) : kidCs (a ++ b) = kidCs a ++ kidCs b := by simp [kidCs]

/-- The pointer reads as what is said, and lies below B. -/
def SPB (W : World) (B : Nat) (ptr : Value) (s : Option Exp) : Prop := SP W ptr s ∧ ∀ a, ptr = .pointer (some a) → a.block < B

theorem SPB.kept {W W' : World} {B : Nat} {ptr : Value} {s : Option Exp} (h : SPB W B ptr s) (hb : ∀ k, k < B → k < W.heap.size → W'.heap[k]? = W.heap[k]?) : SPB W' B ptr s := by
  refine ⟨?_, h.2⟩
  cases s with
  | none => exact h.1
  | some x =>
    obtain ⟨b, o, rfl, hc⟩ := h.1
    refine ⟨b, o, rfl, fun c u hu => ?_⟩
    have h4 := hc c u hu
    rw [← h4]
    exact World.cell?_of_block (hb b (h.2 _ rfl) (World.block_lt_of_cell? W _ h4))

structure Ks (W : World) (B : Nat) (v : Value) (L : List KV) : Prop where
  row : W.ownsRow B 56 3 v L.length (kvs L)
  kids : ∀ x ∈ L, W.ownsRow B 74 2 x.kv x.kn.kids.length (kidCs x.kn.kids)
  says : ∀ x ∈ L, SPB W B x.ptr x.kn.says
  away : ∀ x ∈ L, Apart x.kv v
  apart : L.Pairwise (fun x y => Apart x.kv y.kv)

theorem Apart.not {u v : Value} (h : Apart u v) {g : Nat} (hv : v.ownBlock = some g) : u.ownBlock = none ∨ u.ownBlock ≠ some g := .inr fun e => h g e hv

theorem Ks.nil (W : World) (B : Nat) : Ks W B (.slice none 0 0) [] :=
  ⟨World.ownsRow_nil _ _ _ _, by simp, by simp, by simp, List.Pairwise.nil⟩

theorem Ks.below {W W' : World} {B : Nat} {v : Value} {L : List KV} (h : Ks W B v L) (hb : Below W.heap.size W W') : Ks W' B v L :=
  ⟨ownsRow_below h.row hb, fun x hx => ownsRow_below (h.kids x hx) hb, fun x hx => (h.says x hx).kept (fun k _ hk => hb.block k hk), h.away, h.apart⟩

theorem Ks.high {W : World} {B : Nat} {v : Value} {L : List KV} (h : Ks W B v L) : ∀ k, v.ownBlock = some k → B ≤ k := fun k hk => (h.row.lt k hk).1

/-- A knot more. -/
theorem Ks.push {W W' : World} {B : Nat} {v v' : Value} {L : List KV} (h : Ks W B v L) (hg : Grew W W' v v') (ho : W'.ownsRow B 56 3 v' (L.length + 1) (kvs L ++ KV.zero.cells)) : Ks W' B v' (L ++ [KV.zero]) := by
  refine ⟨?_, fun x hx => ?_, fun x hx => ?_, fun x hx => ?_, ?_⟩
  · rw [kvs_app, List.length_append]; exact ho
  · rcases List.mem_append.1 hx with hx | hx
    · exact hg.own (h.kids x hx) (h.away x hx)
    · rw [List.mem_singleton.1 hx]; exact World.ownsRow_nil _ _ _ _
  · rcases List.mem_append.1 hx with hx | hx
    · exact (h.says x hx).kept fun k hk hk2 => hg.block hk2 (fun e => by have := h.high k e; omega)
    · rw [List.mem_singleton.1 hx]; exact ⟨rfl, fun a e => by cases e⟩
  · rcases List.mem_append.1 hx with hx | hx
    · exact hg.apart (h.kids x hx) (h.away x hx)
    · rw [List.mem_singleton.1 hx]; exact Apart.nil _
  · rw [List.pairwise_append]
    refine ⟨h.apart, by simp, fun x hx y hy => ?_⟩
    rw [List.mem_singleton.1 hy]; exact (Apart.nil _).symm

theorem setC_other (W : World) (K i k : Nat) (u : Value) (h : k ≠ K) : (W.setCell ⟨K, i, none⟩ u).heap[k]? = W.heap[k]? := by
  simp [World.setCell, Array.getElem?_modify, Ne.symm h]
theorem setC_row {W : World} {X i : Nat} {t : TypeId} {vs : Array Value} (h : W.heap[X]? = some (.cells vs t (0, 0))) (u : Value) : (W.setCell ⟨X, i, none⟩ u).heap[X]? = some (.cells (vs.setIfInBounds i u) t (0, 0)) := by
  simp [World.setCell, Array.getElem?_modify, h]
theorem setC_grown (W : World) (K i : Nat) (u : Value) : W.grownBy (W.setCell ⟨K, i, none⟩ u) (some K) :=
  ⟨rfl, rfl, rfl, by simp [World.setCell], fun k hk hne => setC_other W K i k u (fun e => hne (by rw [e]))⟩

theorem owns_set {W : World} {base : Nat} {e : TypeId} {size : Nat} {G n cap : Nat} {xs : List Value} (h : W.ownsRow base e size (.slice (some ⟨G, 0, none⟩) n cap) n xs) (i : Nat) (u : Value) :
    (W.setCell ⟨G, i, none⟩ u).ownsRow base e size (.slice (some ⟨G, 0, none⟩) n cap) n (xs.set i u) := by
  rcases h.2 with ⟨he, -⟩ | ⟨g, c, cur, he, h1, h2, h3, h4, h5, h6⟩
  · cases he
  · cases he
    refine ⟨by simp [h.1], .inr ⟨G, cap, cur.setIfInBounds i u, rfl, h1, setC_row h2 u, h3, h4, by simp [h5], ?_⟩⟩
    rw [← h6]
    simp [List.take_set]

theorem owns_cell {W : World} {base : Nat} {e : TypeId} {size : Nat} {v : Value} {n : Nat} {xs : List Value} (h : W.ownsRow base e size v n xs) (hn : 0 < n) :
    ∃ g cap, v = .slice (some ⟨g, 0, none⟩) n cap ∧ base ≤ g ∧ g < W.heap.size ∧ (∀ i u, xs[i]? = some u → W.cell? ⟨g, i, none⟩ = some u) ∧ ∀ i, W.frozen? ⟨g, i, none⟩ = false := by
  rcases h.2 with ⟨rfl, h0⟩ | ⟨g, cap, cur, rfl, hb, hg, hnc, hcm, hcs, htake⟩
  · omega
  · refine ⟨g, cap, rfl, hb, (Array.getElem?_eq_some_iff.1 hg).1, fun i u hu => ?_, fun i => frozen_of_row W g i _ _ hg⟩
    rw [cell_of_row W g i _ _ _ hg]
    rw [← htake, List.getElem?_take] at hu
    split at hu
    · simpa using hu
    · cases hu

theorem kvs_get {L1 L2 : List KV} {x : KV} {c : Nat} {u : Value} (hu : x.cells[c]? = some u) : (kvs (L1 ++ x :: L2))[L1.length * 3 + c]? = some u := by
  rw [kvs_app, List.getElem?_append_right (by rw [kvs_length]; omega), kvs_length, show L1.length * 3 + c - L1.length * 3 = c by omega]
  have hc : c < x.cells.length := (List.getElem?_eq_some_iff.1 hu).1
  rw [kvs, List.flatMap_cons, List.getElem?_append_left hc]; exact hu

theorem kvs_set (L1 L2 : List KV) (x y : KV) (c : Nat) (u : Value) (hc : c < 3) (he : x.cells.set c u = y.cells) : (kvs (L1 ++ x :: L2)).set (L1.length * 3 + c) u = kvs (L1 ++ y :: L2) := by
  rw [kvs_app, kvs_app, List.set_append_right _ _ (by rw [kvs_length]; omega), kvs_length, show L1.length * 3 + c - L1.length * 3 = c by omega]
  congr 1
  rw [kvs, kvs, List.flatMap_cons, List.flatMap_cons, List.set_append_left _ _ (by show c < 3; exact hc), he]

/-- What is said at a knot. -/
theorem Ks.say {W : World} {B : Nat} {g cap n : Nat} {L1 L2 : List KV} {x : KV} (h : Ks W B (.slice (some ⟨g, 0, none⟩) n cap) (L1 ++ x :: L2)) (hn : (L1 ++ x :: L2).length = n) (ptr : Value) (s : Option Exp) (hs : SPB W B ptr s) :
    Ks (W.setCell ⟨g, L1.length * 3, none⟩ ptr) B (.slice (some ⟨g, 0, none⟩) n cap) (L1 ++ { x with ptr := ptr, kn := { x.kn with says := s } } :: L2) := by
  subst hn
  have hB := h.high g rfl
  have hgr := setC_grown W g (L1.length * 3) ptr
  have hmem : ∀ y ∈ L1 ++ { x with ptr := ptr, kn := { x.kn with says := s } } :: L2, y = { x with ptr := ptr, kn := { x.kn with says := s } } ∨ y ∈ L1 ++ x :: L2 := by
    intro y hy
    rcases List.mem_append.1 hy with hy | hy
    · exact .inr (by simp [hy])
    · rcases List.mem_cons.1 hy with hy | hy
      · exact .inl hy
      · exact .inr (by simp [hy])
  have hx : x ∈ L1 ++ x :: L2 := by simp
  refine ⟨?_, fun y hy => ?_, fun y hy => ?_, fun y hy => ?_, ?_⟩
  · have h1 := owns_set h.row (L1.length * 3 + 0) ptr
    rw [kvs_set L1 L2 x { x with ptr := ptr, kn := { x.kn with says := s } } 0 ptr (by omega) rfl] at h1
    rw [show (L1 ++ { x with ptr := ptr, kn := { x.kn with says := s } } :: L2).length = (L1 ++ x :: L2).length by simp]
    exact h1
  · rcases hmem y hy with rfl | hy
    · exact (h.kids x hx).kept hgr ((h.away x hx).not rfl)
    · exact (h.kids y hy).kept hgr ((h.away y hy).not rfl)
  · rcases hmem y hy with rfl | hy
    · exact hs.kept fun k hk _ => setC_other W g _ k ptr (by omega)
    · exact (h.says y hy).kept fun k hk _ => setC_other W g _ k ptr (by omega)
  · rcases hmem y hy with rfl | hy
    · exact h.away x hx
    · exact h.away y hy
  · have h1 := h.apart
    rw [List.pairwise_append, List.pairwise_cons] at h1 ⊢
    refine ⟨h1.1, h1.2.1, fun a ha b hb => ?_⟩
    rcases List.mem_cons.1 hb with rfl | hb
    · exact h1.2.2 a ha x (by simp)
    · exact h1.2.2 a ha b (by simp [hb])

/-- A child more at a knot. -/
theorem Ks.kid {W W2 : World} {B : Nat} {g cap n : Nat} {L1 L2 : List KV} {x : KV} (h : Ks W B (.slice (some ⟨g, 0, none⟩) n cap) (L1 ++ x :: L2)) (hn : (L1 ++ x :: L2).length = n) (kv' : Value) (r : List UInt8 × Nat)
    (hg : Grew W W2 x.kv kv') (ho : W2.ownsRow B 74 2 kv' (x.kn.kids.length + 1) (kidCs x.kn.kids ++ [.string (mkS r.1), .int .i64 (r.2 : Int)])) :
    Ks (W2.setCell ⟨g, L1.length * 3 + 1, none⟩ kv') B (.slice (some ⟨g, 0, none⟩) n cap) (L1 ++ { x with kv := kv', kn := { x.kn with kids := x.kn.kids ++ [r] } } :: L2) := by
  subst hn
  have hB := h.high g rfl
  have hgr := setC_grown W2 g (L1.length * 3 + 1) kv'
  have hx : x ∈ L1 ++ x :: L2 := by simp
  have hkB : ∀ k, x.kv.ownBlock = some k → B ≤ k := fun k hk => ((h.kids x hx).lt k hk).1
  have hrow2 : W2.ownsRow B 56 3 (.slice (some ⟨g, 0, none⟩) (L1 ++ x :: L2).length cap) (L1 ++ x :: L2).length (kvs (L1 ++ x :: L2)) := hg.own h.row (h.away x hx).symm
  have haw : Apart kv' (.slice (some ⟨g, 0, none⟩) (L1 ++ x :: L2).length cap) := (hg.apart h.row (h.away x hx).symm).symm
  have hothers : ∀ y, y ∈ L1 ∨ y ∈ L2 → y ∈ L1 ++ x :: L2 ∧ Apart y.kv x.kv := by
    intro y hy
    have h1 := h.apart
    rw [List.pairwise_append, List.pairwise_cons] at h1
    rcases hy with hy | hy
    · exact ⟨by simp [hy], h1.2.2 y hy x (by simp)⟩
    · exact ⟨by simp [hy], (h1.2.1.1 y hy).symm⟩
  have hmem : ∀ y ∈ L1 ++ { x with kv := kv', kn := { x.kn with kids := x.kn.kids ++ [r] } } :: L2, y = { x with kv := kv', kn := { x.kn with kids := x.kn.kids ++ [r] } } ∨ (y ∈ L1 ∨ y ∈ L2) := by
    intro y hy
    rcases List.mem_append.1 hy with hy | hy
    · exact .inr (.inl hy)
    · rcases List.mem_cons.1 hy with hy | hy
      · exact .inl hy
      · exact .inr (.inr hy)
  have hlow : ∀ k, k < B → k < W.heap.size → (W2.setCell ⟨g, L1.length * 3 + 1, none⟩ kv').heap[k]? = W.heap[k]? := fun k hk hk2 =>
    (setC_other W2 g _ k kv' (by omega)).trans (hg.block hk2 (fun e => by have := hkB k e; omega))
  refine ⟨?_, fun y hy => ?_, fun y hy => ?_, fun y hy => ?_, ?_⟩
  · have h1 := owns_set hrow2 (L1.length * 3 + 1) kv'
    rw [kvs_set L1 L2 x { x with kv := kv', kn := { x.kn with kids := x.kn.kids ++ [r] } } 1 kv' (by omega) rfl] at h1
    rw [show (L1 ++ { x with kv := kv', kn := { x.kn with kids := x.kn.kids ++ [r] } } :: L2).length = (L1 ++ x :: L2).length by simp]
    exact h1
  · rcases hmem y hy with rfl | hy
    · rw [show ({ x with kv := kv', kn := { x.kn with kids := x.kn.kids ++ [r] } } : KV).kn.kids = x.kn.kids ++ [r] from rfl, kidCs_app, List.length_append]
      exact ho.kept hgr (haw.not rfl)
    · obtain ⟨hy1, hy2⟩ := hothers y hy
      exact (hg.own (h.kids y hy1) hy2).kept hgr ((h.away y hy1).not rfl)
  · rcases hmem y hy with rfl | hy
    · exact (h.says x hx).kept hlow
    · exact (h.says y (hothers y hy).1).kept hlow
  · rcases hmem y hy with rfl | hy
    · exact haw
    · exact h.away y (hothers y hy).1
  · have h1 := h.apart
    rw [List.pairwise_append, List.pairwise_cons] at h1 ⊢
    refine ⟨h1.1, ⟨fun b hb => ?_, h1.2.1.2⟩, fun a ha b hb => ?_⟩
    · obtain ⟨hy1, hy2⟩ := hothers b (.inr hb)
      exact (hg.apart (h.kids b hy1) hy2).symm
    · obtain ⟨hy1, hy2⟩ := hothers a (.inl ha)
      rcases List.mem_cons.1 hb with rfl | hb
      · exact hg.apart (h.kids a hy1) hy2
      · exact h1.2.2 a ha b (by simp [hb])

/-- What is new below a bound stays: the way goes on. -/
theorem Grew.overB {w w1 w' : World} {v v' : Value} (h : Grew w w1 v v') (hb : Below w.heap.size w1 w') : Grew w w' v v' :=
  ⟨⟨hb.os.trans h.by_.os, hb.tape.trans h.by_.tape, hb.output.trans h.by_.output, Nat.le_trans h.by_.size hb.size, fun i hi hr => (hb.block i hi).trans (h.by_.block i hi hr)⟩, h.lies⟩

theorem Grew.setOwn {w w1 : World} {v : Value} {g n cap : Nat} (h : Grew w w1 v (.slice (some ⟨g, 0, none⟩) n cap)) (i : Nat) (u : Value) : Grew w (w1.setCell ⟨g, i, none⟩ u) v (.slice (some ⟨g, 0, none⟩) n cap) := by
  refine ⟨⟨h.by_.os, h.by_.tape, h.by_.output, by simpa [World.setCell] using h.by_.size, fun k hk hr => ?_⟩, h.lies⟩
  refine (setC_other w1 g i k u ?_).trans (h.by_.block k hk hr)
  intro e
  subst e
  rcases h.lies with h1 | ⟨j, h1, h2⟩
  · exact hr h1
  · have : j = k := by simpa [Value.ownBlock] using h1.symm
    omega

/-- Exports that lie below B. -/
structure EL (W : World) (B : Nat) (v : Value) (l : List Exp) : Prop where
  es : ES W v l
  low : ∀ k, inBlk v k → k < B
theorem EL.kept {W W' : World} {B : Nat} {v : Value} {l : List Exp} (h : EL W B v l) (hb : Below B W W') : EL W' B v l :=
  ⟨h.es.of_block fun k hk _ => hb.block k (h.low k hk), h.low⟩
end Go.Proofs.YtipgcdpmkpjokaaGreatDoor
