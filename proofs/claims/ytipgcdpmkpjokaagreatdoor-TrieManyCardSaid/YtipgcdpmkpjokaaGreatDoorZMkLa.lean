/- tie makes knots of exports: what the walk stands on. -/
import Derived.Test.YtipgcdpmkpjokaaGreatDoorZMkK
import Derived.Test.YtipgcdpmkpjokaaGreatDoorZMkJ
import Derived.Deep.CutBlock
namespace Go.Proofs.YtipgcdpmkpjokaaGreatDoor
set_option linter.unusedSimpArgs false
set_option linter.unusedVariables false
open Go.RowKit

def allAt (i : Nat) (s : Option Exp) (F : Fo) : List Knot := ⟨s, F.refs (i + 1)⟩ :: F.knots (i + 1)

def TieEnd (w : World) (B : Nat) (v : Value) (L : List KV) (N : List Knot) (e : Ending) (w' : World) : Prop :=
  ∃ a cap M, e = .returned (.slice a (L.length + N.length) cap) ∧ M.map KV.kn = N ∧ Ks w' B (.slice a (L.length + N.length) cap) (L ++ M) ∧ Grew w w' v (.slice a (L.length + N.length) cap) ∧ ∀ x ∈ M, ∀ k, x.kv.ownBlock = some k → w.heap.size ≤ k

/-- While tie goes on: exports l1 are left; knots are there. -/
structure TieR (w : World) (B : Nat) (v : Value) (L : List KV) (s : Option Exp) (p : List UInt8) (F0 : Fo) (t0 t2 : Value) (wr : World) (l1 : List Exp) (F1 : Fo) (me : KV) (M : List KV) : Prop where
  el : EL wr B t0 l1
  tied : Tied p l1 F1
  ks : Ks wr B t2 (L ++ me :: M)
  grew : Grew w wr v t2
  own : ∀ x ∈ me :: M, ∀ k, x.kv.ownBlock = some k → w.heap.size ≤ k
  says : me.kn.says = s
  refs : me.kn.kids ++ F1.refs (L.length + 1 + M.length) = F0.refs (L.length + 1)
  knots : M.map KV.kn ++ F1.knots (L.length + 1 + M.length) = F0.knots (L.length + 1)
  few : F1.size + M.length ≤ F0.size
  short : ∀ y ∈ l1, y.name.length ≤ 255
  many : l1.length ≤ 4096

def TieI (w : World) (B : Nat) (v : Value) (L : List KV) (s : Option Exp) (p : List UInt8) (F0 : Fo) (t0 t2 : Value) (wr : World) : Prop := ∃ l1 F1 me M, TieR w B v L s p F0 t0 t2 wr l1 F1 me M

theorem ES.ptr {w : World} {pa : Option Addr} {n cap : Nat} {x : Exp} {l : List Exp} (h : ES w (.slice pa n cap) (x :: l)) : ∃ g off, pa = some ⟨g, off, none⟩ ∧ SP w (.pointer (some ⟨g, off, none⟩)) (some x) := by
  obtain ⟨a', cap', he, h1, h2, h3⟩ := h
  cases he
  obtain ⟨g, off, rfl, hc⟩ := h3 (by simp)
  exact ⟨g, off, rfl, g, off, rfl, fun c u hu => by have := hc 0 x rfl c u hu; simpa using this⟩
theorem EL.block {W : World} {B : Nat} {g off : Nat} {n cap : Nat} {l : List Exp} (h : EL W B (.slice (some ⟨g, off, none⟩) n cap) l) (hn : 0 < n) : g < B := h.low g ⟨hn, rfl⟩
theorem EL.tail {W : World} {B : Nat} {pa : Option Addr} {n cap : Nat} {l : List Exp} (h : EL W B (.slice pa n cap) l) {k : Nat} (hk : k ≤ n) : EL W B (.slice (subE pa k cap) (n - k) (cap - k)) (l.drop k) :=
  ⟨h.es.drop hk, fun j hj => h.low j (subE_blk hk hj)⟩
theorem EL.front {W : World} {B : Nat} {pa : Option Addr} {n cap : Nat} {l : List Exp} (h : EL W B (.slice pa n cap) l) {k : Nat} (hk : k ≤ n) : EL W B (.slice pa k cap) (l.take k) := by
  refine ⟨h.es.take hk, fun j hj => h.low j ?_⟩
  cases pa with
  | none => exact hj.elim
  | some a => exact ⟨Nat.lt_of_lt_of_le hj.1 hk, hj.2⟩

theorem EL.set {W : World} {B : Nat} {v : Value} {l : List Exp} (h : EL W B v l) {g : Nat} (hg : B ≤ g) (i : Nat) (u : Value) : EL (W.setCell ⟨g, i, none⟩ u) B v l :=
  h.kept ⟨rfl, rfl, rfl, by simp [World.setCell], fun k hk => setC_other W g i k u (by omega)⟩

theorem idx_group {p : List UInt8} {c : UInt8} {G rest : List Exp} (hG : ∀ y ∈ G, p ++ [c] <+: y.name) (hr : ∀ y ∈ rest, ∃ d, p ++ [d] <+: y.name ∧ c < d) : idxE (fun y => y.name.getD p.length 0 != c) (G ++ rest) = if rest = [] then -1 else (G.length : Int) := by
  have t1 : ∀ y ∈ G, (y.name.getD p.length 0 != c) = false := by
    intro y hy
    obtain ⟨t, ht⟩ := hG y hy
    rw [← ht]; simp
  have t2 : ∀ y ∈ rest, (y.name.getD p.length 0 != c) = true := by
    intro y hy
    obtain ⟨d, ⟨t, ht⟩, hd⟩ := hr y hy
    rw [← ht]
    have hne : d ≠ c := fun e => by subst e; exact UInt8.lt_irrefl _ hd
    simpa using hne
  have e1 : posE (fun y => y.name.getD p.length 0 != c) (G ++ rest) = G.length + rest.findIdx (fun y => y.name.getD p.length 0 != c) := by
    unfold posE
    rw [List.findIdx_append, List.findIdx_eq_length.2 t1]
    simp only [Nat.lt_irrefl, if_false]
    omega
  unfold idxE
  rw [e1]
  cases rest with
  | nil => simp
  | cons y r =>
    have h0 : (y :: r).findIdx (fun y => y.name.getD p.length 0 != c) = 0 := by rw [List.findIdx_cons, t2 y (by simp)]; rfl
    rw [h0, if_pos (by simp), if_neg (by simp)]; simp

theorem pre_snoc {q a : List UInt8} {c : UInt8} (h : q <+: a) (hc : a[q.length]? = some c) : q ++ [c] <+: a := by
  obtain ⟨t, rfl⟩ := h
  cases t with
  | nil => simp at hc
  | cons d t =>
    have e : d = c := by simpa using hc
    subst e
    exact ⟨t, by simp⟩
theorem share_max {a b q : List UInt8} (hq : q = shareL a b) {c d : UInt8} (hc : a[q.length]? = some c) (hd : b[q.length]? = some d) : c ≠ d := by
  intro e
  subst e
  have h1 : q ++ [c] <+: q := by
    conv => rhs; rw [hq]
    exact (share_iff _ _ _).2 ⟨pre_snoc (by rw [hq]; exact share_left _ _) hc, pre_snoc (by rw [hq]; exact share_right _ _) hd⟩
  have := h1.length_le
  simp at this
  omega
theorem share_at {a b q : List UInt8} (hq : q = shareL a b) {j : Nat} (hj : j < q.length) : ∃ c, a[j]? = some c ∧ b[j]? = some c := by
  have h1 : q <+: a := by rw [hq]; exact share_left _ _
  have h2 : q <+: b := by rw [hq]; exact share_right _ _
  refine ⟨q[j], ?_, ?_⟩
  · obtain ⟨t, rfl⟩ := h1; rw [List.getElem?_append_left hj]; exact List.getElem?_eq_getElem hj
  · obtain ⟨t, rfl⟩ := h2; rw [List.getElem?_append_left hj]; exact List.getElem?_eq_getElem hj

theorem mkS_sub (r : List UInt8) (i j : Nat) : (mkS r).extract i j = mkS ((r.take j).drop i) := by
  apply ByteArray.ext
  rw [ByteArray.data_extract]
  show r.toArray.extract i j = ((r.take j).drop i).toArray
  rw [List.drop_take]
  simp [List.extract_eq_take_drop]

theorem roots_le : ∀ F : Fo, F.roots ≤ F.size
  | .nil => Nat.le_refl _
  | .cons _ _ k n => by simp only [Fo.roots, Fo.size]; have := roots_le n; omega

/-- What stands while a child is appended: the place of the children, the name, the bytes skipped. -/
structure In3 (W : World) (gk ko : Nat) (u : Value) (g off : Nat) (nm : List UInt8) (X s : Nat) : Prop where
  k0 : W.cell? ⟨gk, ko, none⟩ = some u
  n0 : W.cell? ⟨g, off, none⟩ = some (.string (mkS nm))
  x0 : W.cell? ⟨X, 0, none⟩ = some (.int .i64 (s : Int))
  fz : W.frozen? ⟨gk, ko, none⟩ = false
theorem frozen_below {W W' : World} {b i : Nat} (h : W.frozen? ⟨b, i, none⟩ = false) (hb : W'.heap[b]? = W.heap[b]?) : W'.frozen? ⟨b, i, none⟩ = false := by
  unfold World.frozen? at h ⊢
  simp only [hb]; exact h
theorem In3.next {W W' : World} {gk ko : Nat} {u : Value} {g off : Nat} {nm : List UInt8} {X s : Nat} (h : In3 W gk ko u g off nm X s) (hb : Below W.heap.size W W') : In3 W' gk ko u g off nm X s :=
  ⟨(hb.cell (p := ⟨gk, ko, none⟩) (World.block_lt_of_cell? W _ h.k0)).trans h.k0, (hb.cell (p := ⟨g, off, none⟩) (World.block_lt_of_cell? W _ h.n0)).trans h.n0, (hb.cell (p := ⟨X, 0, none⟩) (World.block_lt_of_cell? W _ h.x0)).trans h.x0, frozen_below h.fz (hb.block gk (World.block_lt_of_cell? W _ h.k0))⟩
theorem In3.alloc {W : World} {gk ko : Nat} {u : Value} {g off : Nat} {nm : List UInt8} {X s : Nat} (h : In3 W gk ko u g off nm X s) (ob : Obj) : In3 (W.alloc ob) gk ko u g off nm X s := h.next ((Below.refl _ _).alloc (Nat.le_refl _) _)
theorem In3.grew {W W' : World} {gk ko : Nat} {u : Value} {g off : Nat} {nm : List UInt8} {X s : Nat} {v v' : Value} (h : In3 W gk ko u g off nm X s) (hg : Grew W W' v v') (h1 : v.ownBlock ≠ some gk) (h2 : v.ownBlock ≠ some g) (h3 : v.ownBlock ≠ some X) : In3 W' gk ko u g off nm X s :=
  ⟨hg.cell h.k0 h1, hg.cell h.n0 h2, hg.cell h.x0 h3, frozen_below h.fz (hg.block (World.block_lt_of_cell? W _ h.k0) h1)⟩

theorem setC_cell (W : World) (K i b o : Nat) (u : Value) {x : Value} (h : b ≠ K) (hc : W.cell? ⟨b, o, none⟩ = some x) : (W.setCell ⟨K, i, none⟩ u).cell? ⟨b, o, none⟩ = some x := (World.cell?_of_block (setC_other W K i b u h)).trans hc

theorem getD_at {l : List UInt8} {k : Nat} (h : k < l.length) : l[k]? = some (l.getD k 0) := by
  rw [List.getD_eq_getElem?_getD, List.getElem?_eq_getElem h]; rfl

theorem un_knots : Tryz.prog.underlying 50 = some (.slice 56) := by kernel_rfl
theorem un_kids : Tryz.prog.underlying 54 = some (.slice 74) := by kernel_rfl
theorem infoKnot : (Tryz.prog.info? 56).map (fun i => (i.zero, i.size, i.bytes)) = some (some (.agg #[.pointer none, .slice none 0 0, .int .i64 0]), 3, 40) := by kernel_rfl
theorem infoKid : (Tryz.prog.info? 74).map (fun i => (i.zero, i.size, i.bytes)) = some (some (.agg #[.string ⟨#[]⟩, .int .i64 0]), 2, 24) := by kernel_rfl

end Go.Proofs.YtipgcdpmkpjokaaGreatDoor
