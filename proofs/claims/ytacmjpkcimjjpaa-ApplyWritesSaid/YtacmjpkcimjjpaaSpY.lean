/- Package space: the iterator of All. -/
import Derived.Test.YtacmjpkcimjjpaaSpX
import Derived.Deep.RegionLaw
namespace Go.Proofs.Ytacmjpkcimjjpaa
set_option linter.unusedSimpArgs false
set_option linter.unusedVariables false
open Go.RowKit Go.Maps Go.Shelf

/-- A piece. -/
structure Pc where
  at_ : Nat
  prot : Int
  p : Option Addr
  cap : Nat
  bytes : List UInt8

def Pc.sl (x : Pc) : Value := .slice x.p x.bytes.length x.cap
def Pc.v (x : Pc) : Value := .agg #[.int .u64 (x.at_ : Int), .int .i64 x.prot, x.sl]
/-- What it is, wherever its bytes lie. -/
def Pc.d (x : Pc) : Nat × Int × List UInt8 := (x.at_, x.prot, x.bytes)
/-- The block of its bytes. -/
def Pc.blk (x : Pc) (k : Nat) : Prop := x.sl.ownBlock = some k

/-- The bytes of the pages from a on, so many. -/
def bytesM (pgs : List Pg) (a : Nat) : Nat → List UInt8
  | 0 => []
  | k + 1 => bytesM pgs a k ++ pgB pgs (a + k)

def pieceM (pgs : List Pg) (q : Nat × Nat) : Nat × Int × List UInt8 := (q.1 * 4096, pgP pgs q.1, bytesM pgs q.1 (q.2 - q.1))

/-- The space's blocks, and that of the box. -/
def allB (Bx s b : Nat) (pgs : List Pg) (k : Nat) : Prop := k = Bx ∨ k = s ∨ k = b ∨ ∃ g ∈ pgs, g.blk = k

/-- The world in which the iterator is called. -/
structure AllA (Bx s b : Nat) (pgs : List Pg) (ob : Nat → Option Obj) (W : World) : Prop where
  sp : SpAt W s b pgs
  box : RowAt W Bx 35 #[.pointer (some ⟨s, 0, none⟩)]
  ob : ∀ k, allB Bx s b pgs k → W.heap[k]? = ob k

theorem AllA.lt {Bx s b : Nat} {pgs : List Pg} {ob : Nat → Option Obj} {W : World} (h : AllA Bx s b pgs ob W) : ∀ k, allB Bx s b pgs k → k < W.heap.size := by
  rintro k (rfl | rfl | rfl | ⟨g, hg, rfl⟩)
  · exact h.box.lt
  · exact h.sp.lt.1
  · exact h.sp.lt.2.1
  · exact h.sp.lt.2.2 g hg

/-- .. and any other in which these blocks are as they were. -/
theorem AllA.same {Bx s b : Nat} {pgs : List Pg} {ob : Nat → Option Obj} {W W' : World} (h : AllA Bx s b pgs ob W) (hs : W.heap.size ≤ W'.heap.size) (hk : ∀ k, allB Bx s b pgs k → W'.heap[k]? = W.heap[k]?) : AllA Bx s b pgs ob W' := by
  refine ⟨?_, (hk _ (.inl rfl)).trans h.box, fun k hm => (hk k hm).trans (h.ob k hm)⟩
  obtain ⟨h1, h2, h3, h4, h5, h6⟩ := h.sp
  refine ⟨(hk _ (.inr (.inl rfl))).trans h1, ?_, fun g hg => ⟨(hk _ (.inr (.inr (.inr ⟨g, hg, rfl⟩)))).trans (h3 g hg).1, (h3 g hg).2⟩, h4, h5, h6⟩
  obtain ⟨es, clock, m1, m2⟩ := h2
  exact ⟨es, clock, (hk b (.inr (.inr (.inl rfl)))).trans m1, m2⟩

theorem AllA.below {Bx s b : Nat} {pgs : List Pg} {ob : Nat → Option Obj} {W W' : World} (h : AllA Bx s b pgs ob W) (hb : Below W.heap.size W W') : AllA Bx s b pgs ob W' :=
  h.same hb.size fun k hk => hb.block k (h.lt k hk)

theorem look_any {V : World} {s b : Nat} {pgs : List Pg} (h : SpAt V s b pgs) {a : Nat} (ha : a < 2 ^ 64) : ∃ x, (∀ q, (Instr.lookup 90 (.map (some b)) (.int .u64 (a : Int)) false).run Try.prog (V.drewN q) = .ok (.agg #[x, .int .i64 (pgP pgs a)]) (V.drewN q)) ∧ ∀ q O, (Instr.lookup 90 (.map (some b)) (.int .u64 (a : Int)) false).run Try.prog ((V.alloc O).drewN q) = .ok (.agg #[x, .int .i64 (pgP pgs a)]) ((V.alloc O).drewN q) := by
  have hO := fun O => h.below (w' := V.alloc O) ((Below.refl _ _).alloc (Nat.le_refl _) _)
  cases hp : pgAt pgs a with
  | none =>
    refine ⟨.pointer none, fun q => ?_, fun q O => ?_⟩
    · have := (SpAt.drewN h q).look ha; rw [hp] at this; rw [this]; unfold pgP; rw [hp]; rfl
    · have := (SpAt.drewN (hO O) q).look ha; rw [hp] at this; rw [this]; unfold pgP; rw [hp]; rfl
  | some g =>
    refine ⟨.pointer (some ⟨g.blk, 0, none⟩), fun q => ?_, fun q O => ?_⟩
    · have := (SpAt.drewN h q).look ha; rw [hp] at this; rw [this]; unfold pgP; rw [hp]; rfl
    · have := (SpAt.drewN (hO O) q).look ha; rw [hp] at this; rw [this]; unfold pgP; rw [hp]; rfl

theorem flat2_at : ∀ {L : List (Nat × Nat)} {i a z : Nat}, L[i]? = some (a, z) → (flat2 L)[i * 2]? = some (.int .u64 (a : Int)) ∧ (flat2 L)[i * 2 + 1]? = some (.int .u64 (z : Int))
  | [], i, a, z, h => by simp at h
  | q :: r, 0, a, z, h => by simp at h; subst h; exact ⟨rfl, rfl⟩
  | q :: r, i + 1, a, z, h => by
    have := flat2_at (L := r) (i := i) (a := a) (z := z) (by simpa using h)
    have e : flat2 (q :: r) = .int .u64 (q.1 : Int) :: .int .u64 (q.2 : Int) :: flat2 r := rfl
    rw [e, show (i + 1) * 2 = i * 2 + 1 + 1 from by omega]
    exact this

theorem Arr2.at0 {W : World} {g i a z : Nat} {L : List (Nat × Nat)} {sp : List Value} (h : Arr2 W g L sp) (hq : L[i]? = some (a, z)) : W.cell? ⟨g, i * 2, none⟩ = some (.int .u64 (a : Int)) := by
  obtain ⟨h1, -⟩ := flat2_at hq
  rw [RowAt.cell h, List.getElem?_toArray, List.getElem?_append_left (List.getElem?_eq_some_iff.1 h1).1, h1]
theorem Arr2.at1 {W : World} {g i a z : Nat} {L : List (Nat × Nat)} {sp : List Value} (h : Arr2 W g L sp) (hq : L[i]? = some (a, z)) : W.cell? ⟨g, i * 2 + 1, none⟩ = some (.int .u64 (z : Int)) := by
  obtain ⟨-, h1⟩ := flat2_at hq
  rw [RowAt.cell h, List.getElem?_toArray, List.getElem?_append_left (List.getElem?_eq_some_iff.1 h1).1, h1]

theorem runStep_mem {pr : Nat → Int} {L : List (Nat × Nat)} {n : Nat} {S : Nat → Prop} (h : ∀ q ∈ L, ∀ m, q.1 ≤ m → m < q.2 → S m) (hn : S n) : ∀ q ∈ runStep pr L n, ∀ m, q.1 ≤ m → m < q.2 → S m := by
  have one : ∀ q ∈ [(n, n + 1)], ∀ m, q.1 ≤ m → m < q.2 → S m := by
    intro q hq m h1 h2
    simp at hq; subst hq; dsimp only at h1 h2
    have : m = n := by omega
    subst this; exact hn
  unfold runStep
  cases hl : L.getLast? with
  | none => intro q hq; rcases List.mem_append.1 hq with hq | hq; exact h q hq; exact one q hq
  | some p =>
    obtain ⟨a, z⟩ := p
    have hp : (a, z) ∈ L := List.mem_of_getLast? hl
    dsimp only
    split
    · rename_i hc
      intro q hq
      rcases List.mem_append.1 hq with hq | hq
      · exact h q (List.dropLast_subset _ hq)
      · simp at hq; subst hq
        intro m h1 h2
        dsimp only at h1 h2
        by_cases e : m < z
        · exact h _ hp m h1 e
        · have : m = n := by have := hc.1; omega
          subst this; exact hn
    · intro q hq; rcases List.mem_append.1 hq with hq | hq; exact h q hq; exact one q hq

theorem runs_fold (pr : Nat → Int) : ∀ (ys : List Nat) (L : List (Nat × Nat)) (S : Nat → Prop), (∀ q ∈ L, ∀ m, q.1 ≤ m → m < q.2 → S m) → (∀ y ∈ ys, S y) → (∀ y ∈ ys, y < 34359738368) → RunsIn L →
    (∀ q ∈ ys.foldl (runStep pr) L, ∀ m, q.1 ≤ m → m < q.2 → S m) ∧ RunsIn (ys.foldl (runStep pr) L) ∧ (ys.foldl (runStep pr) L).length ≤ L.length + ys.length
  | [], L, S, h, _, _, hi => ⟨h, hi, Nat.le_refl _⟩
  | y :: r, L, S, h, hs, hb, hi => by
    obtain ⟨h1, h2, h3⟩ := runs_fold pr r (runStep pr L y) S (runStep_mem h (hs y (by simp))) (fun x hx => hs x (by simp [hx])) (fun x hx => hb x (by simp [hx])) (hi.step (hb y (by simp)))
    refine ⟨h1, h2, ?_⟩
    have := runStep_len pr L y
    simp only [List.foldl_cons, List.length_cons]
    omega

theorem runsM_facts {pgs : List Pg} {ys : List Nat} (hp : ys.Perm (pgs.map (·.no))) (hno : ∀ g ∈ pgs, g.no < 34359738368) :
    RunsIn (runsM (pgP pgs) ys) ∧ (runsM (pgP pgs) ys).length ≤ pgs.length ∧ ∀ q ∈ runsM (pgP pgs) ys, ∀ m, q.1 ≤ m → m < q.2 → ∃ g, pgAt pgs m = some g := by
  have hb : ∀ y ∈ ys, y < 34359738368 := by
    intro y hy
    obtain ⟨g, hg, e⟩ := List.mem_map.1 (hp.mem_iff.1 hy)
    rw [← e]; exact hno g hg
  have hS : ∀ y ∈ ys, ∃ g, pgAt pgs y = some g := by
    intro y hy
    obtain ⟨g, hg, e⟩ := List.mem_map.1 (hp.mem_iff.1 hy)
    rw [← Option.isSome_iff_exists, ← pgAt_any, List.any_eq_true]
    exact ⟨g, hg, by simpa using e⟩
  obtain ⟨h1, h2, h3⟩ := runs_fold (pgP pgs) ys [] (fun m => ∃ g, pgAt pgs m = some g) (fun q hq => absurd hq (by simp)) hS hb (fun q hq => absurd hq (by simp))
  refine ⟨h2, ?_, h1⟩
  have := hp.length_eq
  rw [List.length_map] at this
  simp at h3
  unfold runsM
  omega

theorem slice_all (w : World) (g : Nat) : (Instr.sliceAt 99 (.pointer (some ⟨g, 0, none⟩)) none none none).run Try.prog w = .ok (.slice (some ⟨g, 0, none⟩) 4096 4096) w := by kernel_rfl

theorem bytesM_le {pgs : List Pg} (h : ∀ g ∈ pgs, g.bytes.length = 4096) (a : Nat) : ∀ k, (bytesM pgs a k).length ≤ k * 4096
  | 0 => Nat.zero_le _
  | k + 1 => by
    have h1 := bytesM_le h a k
    have h2 : (pgB pgs (a + k)).length ≤ 4096 := by
      unfold pgB
      cases hp : pgAt pgs (a + k) with
      | none => exact Nat.zero_le _
      | some g => exact Nat.le_of_eq (h g (pgAt_mem hp).1)
    show (bytesM pgs a k ++ pgB pgs (a + k)).length ≤ _
    rw [List.length_append]
    omega

theorem own_same {W W' : World} {base : Nat} {e : TypeId} {size : Nat} {v : Value} {n : Nat} {xs : List Value} (h : W.ownsRow base e size v n xs) (hv : ∀ k, v.ownBlock = some k → W'.heap[k]? = W.heap[k]?) : W'.ownsRow base e size v n xs := by
  refine ⟨h.1, ?_⟩
  rcases h.2 with hn | ⟨g, cap, cur, rfl, hg, hc, rest⟩
  · exact .inl hn
  · exact .inr ⟨g, cap, cur, rfl, hg, (hv g rfl).trans hc, rest⟩

theorem own_any (p : Option Addr) (n n' c c' : Nat) : (Value.slice p n c).ownBlock = (Value.slice p n' c').ownBlock := by cases p <;> rfl

theorem ob_ne {w : World} {base : Nat} {e : TypeId} {v : Value} {l : List UInt8} (h : OB w base e v l) {k : Nat} (hk : k < base) : v.ownBlock ≠ some k := fun e => by have := h.high k e; omega

theorem ob_drew {w : World} {base : Nat} {e : TypeId} {v : Value} {l : List UInt8} (h : OB w base e v l) : OB w.drew base e v l := h
theorem src_drew {w : World} {p : Option Addr} {n cap : Nat} {l : List UInt8} (h : BS w (.slice p n cap) l) (hl : l.length = n) : Src Try.prog 1 102 (.slice p n cap) l.length (u8s l) w.drew := by
  rw [hl]
  exact Src.ofBS un_bs8 (h.heap (w' := w.drew) rfl)

/-- While a piece's bytes are collected. -/
def InR (pgs : List Pg) (U : World) (P at_ : Nat) (pr : Int) (bs : List UInt8) (w1 : World) : Prop :=
  ∃ bv, RowAt w1 P 106 #[.int .u64 (at_ : Int), .int .i64 pr, bv] ∧ OB w1 U.heap.size 5 bv bs ∧ U.grownBy w1 (some P)

theorem InR.by_ {U wr W6 : World} {P : Nat} {v v' u : Value} (h : U.grownBy wr (some P)) (g : Grew wr W6 v v') (hv : ∀ k, v.ownBlock = some k → U.heap.size ≤ k) (hP : P < U.heap.size) : U.grownBy (W6.setCell ⟨P, 2, none⟩ u) (some P) := by
  refine ⟨g.by_.os.trans h.os, g.by_.tape.trans h.tape, g.by_.output.trans h.output, ?_, fun k hk hr => ?_⟩
  · have := h.size; have := g.size; simp only [World.setCell, Array.size_modify]; omega
  · have hne : k ≠ P := fun e => hr (by rw [e])
    rw [heap_setCell_other _ _ k _ (by simpa using hne), g.block (Nat.lt_of_lt_of_le hk h.size) (fun e => by have := hv k e; omega), h.block k hk hr]

set_option maxRecDepth 100000 in
set_option maxHeartbeats 4000000 in
theorem all_seq (n : Nat) (Bx s b : Nat) (pgs : List Pg) (ob : Nat → Option Obj) (hl : pgs.length ≤ 12) (hno : ∀ g ∈ pgs, g.no < 34359738368) :
    SeqM n Try.prog 54 #[.pointer (some ⟨Bx, 0, none⟩)] (fun x : Pc => #[x.v]) Pc.blk
      (fun _ x M W => BS W x.sl x.bytes ∧ ∀ k, x.blk k → M k)
      (fun xs W => (∃ ys, ys.Perm (pgs.map (·.no)) ∧ ys.Pairwise (· ≤ ·) ∧ xs.map Pc.d = (runsM (pgP pgs) ys).map (pieceM pgs)) ∧ ∀ k, allB Bx s b pgs k → W.heap[k]? = ob k)
      (fun _ _ => True) 13 (allB Bx s b pgs) (AllA Bx s b pgs ob) := by
  intro l J Jx W hA hJ hJx hY h0
  refine callsIn_of_wp Try.func54 rfl trivial ?_ rfl
  simp only [Try.ntmps54, List.size_toArray, List.length_cons, List.length_nil, Nat.reduceAdd, Nat.reduceSub, Array.replicate_succ, Array.replicate_zero, List.push_toArray, List.append_toArray, List.nil_append, List.cons_append]
  have c0 : W.cell? ⟨Bx, 0, none⟩ = some (.pointer (some ⟨s, 0, none⟩)) := hA.box.cell 0
  have HRU := hid (sp_runs W s b pgs hA.sp hl hno)
  have HA := hid (And.intro hA (And.intro hl hno))
  have HY := hid hY
  have H0 := hid h0
  have HJ := hid (And.intro hJ hJx)
  clear hA hJ hJx hY h0 hl hno
  gi_wp2
  refine ⟨trivial, fun h => (by simp [Fence.wide] at h), callsIn_wide.2 (HRU.out.mono ?_)⟩
  rintro e W1 ⟨v, ys, rfl, hperm, hsort, hown, hb⟩
  obtain ⟨vp, vc, rfl⟩ := ownsRow_form hown
  obtain ⟨rs, hrs⟩ : ∃ rs, rs = runsM (pgP pgs) ys := ⟨_, rfl⟩
  rw [← hrs] at hown ⊢
  obtain ⟨R, hR⟩ : ∃ R, R = rs.length := ⟨_, rfl⟩
  rw [← hR] at hown ⊢
  have hA1 := HA.out.1.below hb
  obtain ⟨hin, hR12, hmem⟩ := runsM_facts hperm HA.out.2.2
  rw [← hrs] at hin hR12 hmem
  have Hmem := hid hmem
  have hR12 : R ≤ 12 := by have := HA.out.2.1; omega
  have hst : ∃ M, J [] M W1 ∧ (∀ k, allB Bx s b pgs k → M k) ∧ (∀ k, (Value.slice vp R vc).ownBlock = some k → M k) ∧ ∀ k, M k → k < W1.heap.size :=
    ⟨_, HJ.out.1 _ _ _ _ _ H0.out (Its.of_below_new _ hb), fun k hk => .inl hk, fun k hk => .inr (hown.lt k hk), fun k hk => hk.elim (fun h => Nat.lt_of_lt_of_le (HA.out.1.lt k h) hb.size) And.right⟩
  have H1 := hid (And.intro hperm (And.intro hsort (And.intro hown (And.intro hA1 (And.intro hin (And.intro hrs (And.intro hR hst)))))))
  clear hperm hsort hown hb hA1 hin hrs hR hst c0 hmem
  gi_wp2
  gi_loopw [12] (fun i wr => ∃ (pre : List Pc) (M : Nat → Prop), i = .int .i64 ((pre.length : Nat) : Int) ∧ pre.length ≤ R ∧ J pre M wr ∧ (∀ k, allB Bx s b pgs k → M k) ∧ (∀ k, (Value.slice vp R vc).ownBlock = some k → M k) ∧ (∀ k, M k → k < wr.heap.size) ∧
      AllA Bx s b pgs ob wr ∧ wr.ownsRow W.heap.size 142 2 (.slice vp R vc) R (flat2 rs) ∧ pre.map Pc.d = (rs.take pre.length).map (pieceM pgs)) (fun i _ => R - (intOf i).toNat)
  case atStart =>
    obtain ⟨M, m1, m2, m3, m4⟩ := H1.out.2.2.2.2.2.2.2
    exact ⟨[], M, rfl, Nat.zero_le _, m1, m2, m3, m4, H1.out.2.2.2.1, H1.out.2.2.1, rfl⟩
  case round =>
    obtain ⟨pre, M, rfl, hi, hJ, hm1, hm2, hm3, hAr, hor, hpre⟩ := hrel
    obtain ⟨wo, rfl⟩ : ∃ wo : World, wo = wr := ⟨_, rfl⟩
    obtain ⟨i, hii⟩ : ∃ i, i = pre.length := ⟨_, rfl⟩
    rw [← hii] at hi hpre ⊢
    by_cases hlt : i < R
    · have hltz : decide ((i : Int) < (R : Int)) = true := by rw [decide_eq_true_eq]; omega
      have hltz2 : decide (i < R) = true := by rw [decide_eq_true_eq]; omega
      obtain ⟨-, -, -, rb, sp, rfl, hrb, harr, -⟩ := arr2_of_own hor (by omega)
      obtain ⟨a, z, hq⟩ : ∃ a z, rs[i]? = some (a, z) := ⟨_, _, List.getElem?_eq_getElem (by rw [← H1.out.2.2.2.2.2.2.1]; exact hlt)⟩
      have ca : wo.cell? ⟨rb, i * 2, none⟩ = some (.int .u64 (a : Int)) := harr.at0 hq
      have cz : wo.cell? ⟨rb, i * 2 + 1, none⟩ = some (.int .u64 (z : Int)) := harr.at1 hq
      have cb : wo.cell? ⟨Bx, 0, none⟩ = some (.pointer (some ⟨s, 0, none⟩)) := hAr.box.cell 0
      have cs : wo.cell? ⟨s, 0, none⟩ = some (.map (some b)) := hAr.sp.row.cell 0
      have haz := H1.out.2.2.2.2.1 (a, z) (List.mem_of_getElem? hq)
      dsimp only at haz
      have HR := hid (And.intro hJ (And.intro hm1 (And.intro hm2 (And.intro hm3 (And.intro hAr (And.intro hor (And.intro hpre (And.intro hq (And.intro haz hii)))))))))
      clear hJ hm1 hm2 hm3 hAr hor hpre hq haz hii harr
      gi_wp2
      obtain ⟨V, hV⟩ : ∃ V, V = wo.alloc (.cells #[.int .u64 (a : Int), .int .u64 (z : Int)] 142) := ⟨_, rfl⟩
      obtain ⟨K, hK⟩ : ∃ K, K = wo.heap.size := ⟨_, rfl⟩
      have hVb : Below wo.heap.size wo V := by rw [hV]; exact (Below.refl _ _).alloc (Nat.le_refl _) _
      have hVs : V.heap.size = K + 1 := by rw [hV, hK]; simp
      have hVA := HR.out.2.2.2.2.1.below hVb
      have hrow : RowAt V K 142 #[.int .u64 (a : Int), .int .u64 (z : Int)] := by rw [hV, hK]; exact heap_alloc_new _ _
      have cb : V.cell? ⟨Bx, 0, none⟩ = some (.pointer (some ⟨s, 0, none⟩)) := hVA.box.cell 0
      have cs : V.cell? ⟨s, 0, none⟩ = some (.map (some b)) := hVA.sp.row.cell 0
      have k0 : V.cell? ⟨K, 0, none⟩ = some (.int .u64 (a : Int)) := hrow.cell 0
      have k1 : V.cell? ⟨K, 1, none⟩ = some (.int .u64 (z : Int)) := hrow.cell 1
      have hml : IntKind.u64.wrap ((a : Int) * 4096) = ((a * 4096 : Nat) : Int) := (IntWalk.u64_in _ (by have := HR.out.2.2.2.2.2.2.2.2.1; omega)).trans (by omega)
      obtain ⟨x1, hl1, hl2⟩ : ∃ x, (∀ q, (Instr.lookup 90 (.map (some b)) (.int .u64 (a : Int)) false).run Try.prog (V.drewN q) = .ok (.agg #[x, .int .i64 (pgP pgs a)]) (V.drewN q)) ∧ ∀ q O, (Instr.lookup 90 (.map (some b)) (.int .u64 (a : Int)) false).run Try.prog ((V.alloc O).drewN q) = .ok (.agg #[x, .int .i64 (pgP pgs a)]) ((V.alloc O).drewN q) := look_any hVA.sp (by have := HR.out.2.2.2.2.2.2.2.2.1; omega)
      have hl3 : ∀ O, (Instr.lookup 90 (.map (some b)) (.int .u64 (a : Int)) false).run Try.prog (V.alloc O).drew = .ok (.agg #[x1, .int .i64 (pgP pgs a)]) (V.alloc O).drew := fun O => hl2 1 O
      have hl4 : (Instr.lookup 90 (.map (some b)) (.int .u64 (a : Int)) false).run Try.prog V.drew = .ok (.agg #[x1, .int .i64 (pgP pgs a)]) V.drew := hl1 1
      have hfd1 := fun w => field_prot2 w x1 (pgP pgs a)
      have HV := hid (And.intro hVb (And.intro hVs (And.intro hVA (And.intro hrow (And.intro hK hV)))))
      rw [← hV, ← hK]
      clear hVb hVs hVA hrow hV hK ca cz hltz hltz2
      have ka : ∀ O, (V.alloc O).cell? ⟨K, 0, none⟩ = some (.int .u64 (a : Int)) := fun O => below_cell' ((Below.refl _ V).alloc (Nat.le_refl _) O) (World.block_lt_of_cell? V _ k0) k0
      have kb : ∀ O, (V.alloc O).cell? ⟨Bx, 0, none⟩ = some (.pointer (some ⟨s, 0, none⟩)) := fun O => below_cell' ((Below.refl _ V).alloc (Nat.le_refl _) O) (World.block_lt_of_cell? V _ cb) cb
      have ks : ∀ O, (V.alloc O).cell? ⟨s, 0, none⟩ = some (.map (some b)) := fun O => below_cell' ((Below.refl _ V).alloc (Nat.le_refl _) O) (World.block_lt_of_cell? V _ cs) cs
      refine wpIn_wide.2 ?_
      go_region
      obtain ⟨at_, hat⟩ : ∃ m, m = a * 4096 := ⟨_, rfl⟩
      obtain ⟨pr, hpr⟩ : ∃ p, p = pgP pgs a := ⟨_, rfl⟩
      obtain ⟨U, hU⟩ : ∃ U, U = (V.alloc (.cells #[.int .u64 (at_ : Int), .int .i64 pr, .slice none 0 0] 106)).drew := ⟨_, rfl⟩
      have hUb : Below V.heap.size V U := by rw [hU]; exact ((Below.refl _ _).alloc (Nat.le_refl _) _).drew
      have hPs : V.heap.size = K + 1 := HV.out.2.1
      have hUs : U.heap.size = K + 2 := by rw [hU]; show (V.alloc _).heap.size = _; simp; omega
      have hUA := HV.out.2.2.1.below hUb
      have hrow : RowAt U (K + 1) 106 #[.int .u64 (at_ : Int), .int .i64 pr, .slice none 0 0] := by rw [hU, ← hPs]; exact heap_alloc_new V _
      have hrowK : RowAt U K 142 #[.int .u64 (a : Int), .int .u64 (z : Int)] := RowAt.below HV.out.2.2.2.1 hUb
      have HU := hid (And.intro (HV.out.1.trans (hUb.mono HV.out.1.size)) (And.intro hUs (And.intro hUA (And.intro hrow (And.intro hrowK (And.intro hat hpr))))))
      have hcast : (a : Int) * 4096 = (at_ : Int) := by omega
      have hU2 := hid hU
      have hUeq : (V.alloc (.cells #[.int .u64 ((a : Int) * 4096), .int .i64 (pgP pgs a), .slice none 0 0] 106)).drew = U := by rw [hU, hpr, hcast]
      rw [hUeq, hPs]
      clear hat hpr hU hUb hUs hUA hrow hrowK hUeq hPs hl1 hl2 hl3 hl4 ka kb ks k0 k1 cb cs hml hfd1 hcast
      have k0 : U.cell? ⟨K, 0, none⟩ = some (.int .u64 (a : Int)) := HU.out.2.2.2.2.1.cell 0
      gi_wp2
      refine wpIn_wide.2 ?_
      go_loopw [6] (fun nv w1 => ∃ k : Nat, a + k ≤ z ∧ nv = .int .u64 ((a + k : Nat) : Int) ∧ InR pgs U (K + 1) at_ pr (bytesM pgs a k) w1) (fun nv _ => z - (intOf nv).toNat)
      case atStart => exact ⟨0, by have := HR.out.2.2.2.2.2.2.2.2.1; omega, rfl, .slice none 0 0, HU.out.2.2.2.1, OB.nil _ _ _, ⟨rfl, rfl, rfl, Nat.le_refl _, fun _ _ _ => rfl⟩⟩
      case round =>
        obtain ⟨k, hk, rfl, bv, hrow, hob, hby⟩ := hrel
        obtain ⟨bp, bc, rfl⟩ := hob.form
        obtain ⟨Lb, hLb⟩ : ∃ Lb, Lb = (bytesM pgs a k).length := ⟨_, rfl⟩
        rw [← hLb] at hrow
        have hob2 : OB wr U.heap.size 5 (.slice bp Lb bc) (bytesM pgs a k) := by rw [hLb]; exact hob
        obtain ⟨m, hm⟩ : ∃ m, m = a + k := ⟨_, rfl⟩
        rw [← hm] at hk ⊢
        have hPs : K + 1 < U.heap.size := by have := HU.out.2.1; omega
        have hKs : wo.heap.size = K := HV.out.2.2.2.2.1.symm
        have hA2 : AllA Bx s b pgs ob wr := HU.out.2.2.1.same hby.size (fun j hj => hby.block j (HU.out.2.2.1.lt j hj) (fun e => by cases e; have := HR.out.2.2.2.1 _ (HR.out.2.1 _ hj); omega))
        have k1 : wr.cell? ⟨K, 1, none⟩ = some (.int .u64 (z : Int)) := RowAt.cell ((hby.block K (by omega) (by simp)).trans HU.out.2.2.2.2.1) 1
        have cb : wr.cell? ⟨Bx, 0, none⟩ = some (.pointer (some ⟨s, 0, none⟩)) := hA2.box.cell 0
        have cs : wr.cell? ⟨s, 0, none⟩ = some (.map (some b)) := hA2.sp.row.cell 0
        have p2 : wr.cell? ⟨K + 1, 2, none⟩ = some (.slice bp Lb bc) := hrow.cell 2
        have f2 : wr.frozen? ⟨K + 1, 2, none⟩ = false := hrow.own 2
        have HI := hid (And.intro hrow (And.intro hob2 (And.intro hby (And.intro hA2 (And.intro hLb hm)))))
        clear hrow hob hob2 hby hA2 hLb
        by_cases hmz : m < z
        · have hd : decide ((m : Int) < (z : Int)) = true := by rw [decide_eq_true_eq]; omega
          have hd2 : decide (m < z) = true := by rw [decide_eq_true_eq]; omega
          obtain ⟨q, hq⟩ := Hmem.out (a, z) (List.mem_of_getElem? HR.out.2.2.2.2.2.2.2.1) m (by dsimp only; omega) hmz
          have hl4 : (Instr.lookup 90 (.map (some b)) (.int .u64 (m : Int)) false).run Try.prog wr.drew = .ok (.agg #[.pointer (some ⟨q.blk, 0, none⟩), .int .i64 q.prot]) wr.drew := by
            have := (SpAt.drewN HI.out.2.2.2.1.sp 1).look (n := m) (by have := HR.out.2.2.2.2.2.2.2.2.1; omega)
            rw [hq] at this
            exact this
          have hfp := fun w => field_page w q.blk q.prot
          have hsl := fun w => slice_all w q.blk
          obtain ⟨hqr, hql, -⟩ := HI.out.2.2.2.1.sp.pages q (pgAt_mem hq).1
          have hqb : BS wr (.slice (some ⟨q.blk, 0, none⟩) 4096 4096) q.bytes := by have := bs_block hqr (by rw [hql]; decide); rw [hql] at this; exact this
          obtain ⟨i0, hrowU⟩ := u8row
          have hwm : IntKind.u64.wrap ((m : Int) + 1) = ((m + 1 : Nat) : Int) := (IntWalk.u64_in _ (by have := HR.out.2.2.2.2.2.2.2.2.1; omega)).trans (by omega)
          have HQ := hid (And.intro hq (And.intro hqb (And.intro hql hrowU)))
          have hlen : (bytesM pgs a k).length + q.bytes.length ≤ 140737488355328 := by
            have := bytesM_le (fun g hg => (HI.out.2.2.2.1.sp.pages g hg).2.1) a k
            have h35 := HR.out.2.2.2.2.2.2.2.2.1.2
            rw [hql]; omega
          have Hlen := hid hlen
          have Hbase := hid (show U.heap.size ≤ wr.drew.heap.size from HI.out.2.2.1.size)
          have Hpu := hid hPs
          clear hq hqb hql hrowU hqr hm hlen
          go_wp2_with fail
          go_region_law (refine step_bytes HQ.out.2.2.2 _ rfl _ _ _ rfl U.heap.size (.slice bp Lb bc) (bytesM pgs a k) rfl (ob_drew HI.out.2.1) (.slice (some ⟨q.blk, 0, none⟩) 4096 4096) q.bytes rfl (src_drew HQ.out.2.1 HQ.out.2.2.1) Hlen.out Hbase.out ?_; intro v1 W6 hown hg; have hr6 : RowAt W6 (K + 1) 106 #[.int .u64 (at_ : Int), .int .i64 pr, .slice bp Lb bc] := (hg.block HI.out.1.lt (ob_ne HI.out.2.1 Hpu.out)).trans HI.out.1; have p3 := hr6.cell 2; have f3 := hr6.own 2; obtain ⟨q1, q2, hv1⟩ := ownsRow_form hown; subst hv1; have H6 := hid (And.intro hown (And.intro hg hr6)); clear hown hg hr6)
          all_goals
            go_wp2_with fail
            have hgo : InR pgs U (K + 1) at_ pr (bytesM pgs a (k + 1)) (W6.setCell ⟨K + 1, 2, none⟩ (.slice q1 ((bytesM pgs a k).length + q.bytes.length) q2)) := by
              have he : bytesM pgs a (k + 1) = bytesM pgs a k ++ q.bytes := by
                show bytesM pgs a k ++ pgB pgs (a + k) = _
                unfold pgB; rw [← HI.out.2.2.2.2.2, HQ.out.1]
              rw [he]
              refine ⟨_, H6.out.2.2.same _, ownsRow_setOther (by rw [List.length_append]; have := H6.out.1; unfold OB at this; rw [List.length_append] at this; exact this) ?_ _, InR.by_ HI.out.2.2.1 (Grew.under (w := wr) (w1 := wr.drew) ⟨rfl, rfl, rfl, Nat.le_refl _, fun _ _ => rfl⟩ H6.out.2.1) (fun j hj => HI.out.2.1.high j hj) Hpu.out⟩
              intro e0
              have e1 : (Value.slice q1 (bytesM pgs a k ++ q.bytes).length q2).ownBlock = some (K + 1) := (own_any _ _ _ _ _).trans e0
              rcases H6.out.2.1.lies with e | ⟨j, e, hj⟩
              · rw [e] at e1; exact ob_ne HI.out.2.1 Hpu.out e1
              · rw [e] at e1; cases e1; have := HI.out.2.2.1.size; have h2 := Hpu.out; have h3 : wr.drew.heap.size = wr.heap.size := rfl; omega
            have HG := hid hgo
            clear hgo
            go_roundw
            case rel => exact ⟨k + 1, by have := HI.out.2.2.2.2.2; omega, by rw [show a + (k + 1) = m + 1 from by have := HI.out.2.2.2.2.2; omega]; rfl, HG.out⟩
            case measure => simp [intOf]; omega
        · have hd : decide ((m : Int) < (z : Int)) = false := by rw [decide_eq_false_iff_not]; omega
          have hd2 : decide (m < z) = false := by rw [decide_eq_false_iff_not]; omega
          have hmz2 : m = z := by omega
          subst hmz2
          have p0 : wr.cell? ⟨K + 1, 0, none⟩ = some (.int .u64 (at_ : Int)) := HI.out.1.cell 0
          have p1 : wr.cell? ⟨K + 1, 1, none⟩ = some (.int .i64 pr) := HI.out.1.cell 1
          have hbw : Below wo.heap.size wo wr := HU.out.1.grown HI.out.2.2.1 HU.out.1.size (fun j e => by cases e; omega)
          have hLb := HI.out.2.2.2.2.1
          have hlen : Lb ≤ 140737488355328 := by
            have h1 := bytesM_le (fun g hg => (HI.out.2.2.2.1.sp.pages g hg).2.1) a k
            have h35 := HR.out.2.2.2.2.2.2.2.2.1.2
            omega
          have hbs : BS wr (.slice bp Lb bc) (bytesM pgs a k) := HI.out.2.1.bs (by rw [← hLb]; exact hlen)
          obtain ⟨fn, tmps, assign, body, hy, hRo⟩ := HY.out pre ⟨at_, pr, bp, bc, bytesM pgs a k⟩ _ wr (HJ.out.1 _ _ _ _ _ HR.out.1 (Its.of_below_new M hbw)) ⟨by unfold Pc.sl; dsimp only; rw [← hLb]; exact hbs, fun j hj => .inr ⟨Nat.le_trans HU.out.1.size (HI.out.2.1.high j ((own_any _ _ _ _ _).trans hj)), HI.out.2.1.lt j ((own_any _ _ _ _ _).trans hj)⟩⟩ (by have := HR.out.2.2.2.2.2.2.2.2.2; omega)
          have hy' : (Instr.yield l #[.agg #[.int .u64 (at_ : Int), .int .i64 pr, .slice bp Lb bc]]).run Try.prog wr = .ok (.round l fn tmps assign body) wr := by rw [hLb]; exact hy
          have HRo := hid (And.intro hRo (And.intro hbw hlen))
          clear hy hRo hbw hLb hlen hbs
          go_wp2_with fail
          gi_wp2
          refine ⟨fun h => (by simp [Fence.wide] at h), ?_⟩
          refine HRo.out.1.mono ?_
          rintro e w3 (⟨rfl, hJ3, hk3⟩ | ⟨rfl, hJx3, hk3⟩)
          · have hg1 : ∀ j, M j → j < U.heap.size := fun j hj => by have := HR.out.2.2.2.1 j hj; have h1 := HU.out.2.1; have h2 : K = wo.heap.size := HV.out.2.2.2.2.1; omega
            have hg2 : ∀ j, M j → rel Pc.blk ⟨at_, pr, bp, bc, bytesM pgs a k⟩ (fun k => M k ∨ (wo.heap.size ≤ k ∧ k < wr.heap.size)) j := fun j hj => ⟨.inl hj, fun hx => by
              have h1 := HI.out.2.1.high j ((own_any _ _ _ _ _).trans hx)
              have h2 := hg1 j hj
              omega⟩
            have hkeep : ∀ j, M j → w3.heap[j]? = wr.heap[j]? := fun j hj => hk3.keep j (Nat.lt_of_lt_of_le (HR.out.2.2.2.1 j hj) HRo.out.2.1.size) (hg2 j hj)
            have hA3 : AllA Bx s b pgs ob w3 := HI.out.2.2.2.1.same hk3.size (fun j hj => hkeep j (HR.out.2.1 j hj))
            have ho3 := own_same (ownsRow_below HR.out.2.2.2.2.2.1 HRo.out.2.1) (fun j hj => hkeep j (HR.out.2.2.1 j hj))
            have hlt3 : ∀ j, rel Pc.blk ⟨at_, pr, bp, bc, bytesM pgs a k⟩ (fun k => M k ∨ (wo.heap.size ≤ k ∧ k < wr.heap.size)) j → j < w3.heap.size := fun j hj => by
              have h1 := hk3.size
              have h2 := HRo.out.2.1.size
              rcases hj.1 with h | h
              · have := HR.out.2.2.2.1 j h; omega
              · omega
            have hlast : (pre ++ [(⟨at_, pr, bp, bc, bytesM pgs a k⟩ : Pc)]).map Pc.d = (rs.take (i + 1)).map (pieceM pgs) := by
              rw [List.take_add_one, HR.out.2.2.2.2.2.2.2.1, List.map_append, List.map_append, HR.out.2.2.2.2.2.2.1]
              congr 1
              show [(at_, pr, bytesM pgs a k)] = [pieceM pgs (a, m)]
              unfold pieceM
              rw [HU.out.2.2.2.2.2.1, HU.out.2.2.2.2.2.2, show k = m - a from by have := HI.out.2.2.2.2.2; omega]
            have HZ := hid (And.intro hJ3 (And.intro (fun j hj => hg2 j (HR.out.2.1 j hj)) (And.intro (fun j hj => hg2 j (HR.out.2.2.1 j hj)) (And.intro hlt3 (And.intro hA3 (And.intro ho3 hlast))))))
            clear hJ3 hk3 hg1 hg2 hkeep hA3 ho3 hlt3 hlast
            gi_wp2
            go_roundw
            case rel =>
              have hii := HR.out.2.2.2.2.2.2.2.2.2
              refine ⟨_, _, ?_, ?_, HZ.out.1, HZ.out.2.1, HZ.out.2.2.1, HZ.out.2.2.2.1, HZ.out.2.2.2.2.1, HZ.out.2.2.2.2.2.1, ?_⟩
              · rw [List.length_append, ← hii]; rfl
              · rw [List.length_append, ← hii]; exact hlt
              · rw [List.length_append, ← hii]; exact HZ.out.2.2.2.2.2.2
            case measure => simp [intOf]; omega
          · have HZ := hid hJx3
            clear hJx3 hk3
            gi_wp2
            refine bodyPost_ret (results_none rfl _ _ _) rfl ?_
            exact ⟨⟨_, rfl⟩, .inr ⟨_, _, trivial, HZ.out⟩⟩
    · have hltz : decide ((i : Int) < (R : Int)) = false := by rw [decide_eq_false_iff_not]; omega
      have hltz2 : decide (i < R) = false := by rw [decide_eq_false_iff_not]; omega
      have hiR : i = R := by omega
      have HF := hid (And.intro hJ (And.intro hpre (And.intro hiR hAr)))
      clear hJ hm1 hm2 hm3 hAr hor hpre hii hiR
      gi_wp2
      go_end0
      refine ⟨⟨_, rfl⟩, .inl ⟨pre, M, ⟨⟨ys, H1.out.1, H1.out.2.1, ?_⟩, HF.out.2.2.2.ob⟩, HF.out.1⟩⟩
      rw [HF.out.2.1, HF.out.2.2.1, H1.out.2.2.2.2.2.2.1, List.take_length, H1.out.2.2.2.2.2.1]
end Go.Proofs.Ytacmjpkcimjjpaa
