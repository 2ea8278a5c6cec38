/- May rows be, as the document asks, patch by patch: plain. -/
import Derived.Test.YthlnjfnjmjdohaaZBmH
import Derived.Test.YthlnjfnjmjdohaaZBmF
import Derived.Test.YthlnjfnjmjdohaaZBdA
namespace Go.Proofs.Ythlnjfnjmjdohaa
set_option linter.unusedSimpArgs false
set_option linter.unusedVariables false

def okPatch (lost gained : List Cz) (last : Nat) (g : Gz) : Bool :=
  decide (0 < g.old.length) && decide (g.new.length = g.old.length) && decide (g.at_ ≤ MAXA) && decide (g.at_ + g.old.length ≤ MAXA) && decide (last ≤ g.at_) && !meetC (cellsAt 1 g.at_ g.old) lost && !meetC (cellsAt 1 g.at_ g.old) gained
def okFrom (lost gained : List Cz) : Nat → List Gz → Bool
  | _, [] => true
  | last, g :: P => okPatch lost gained last g && okFrom lost gained (g.at_ + g.old.length) P
theorem meetC_app (A B C : List Cz) : meetC (A ++ B) C = (meetC A C || meetC B C) := by unfold meetC; rw [List.any_append]
theorem may_old (last : Nat) (g : Gz) (l : List Pz) : mayFrom last (oldM g :: l) = true ↔ (0 < g.old.length ∧ last ≤ g.at_ ∧ g.at_ ≤ MAXA ∧ g.at_ + g.old.length ≤ MAXA ∧ mayFrom (g.at_ + g.old.length) l = true) := by
  rw [mayFrom]
  simp only [Bool.and_eq_true, decide_eq_true_eq]
  exact ⟨fun ⟨⟨⟨⟨⟨⟨h1, _⟩, _⟩, h4⟩, h5⟩, h6⟩, h7⟩ => ⟨h1, h4, h5, h6, h7⟩, fun ⟨h1, h4, h5, h6, h7⟩ => ⟨⟨⟨⟨⟨⟨h1, by show (1 : Int) ≤ 1; omega⟩, by show (1 : Int) ≤ 7; omega⟩, h4⟩, h5⟩, h6⟩, h7⟩⟩
theorem may_new (last : Nat) (g : Gz) (l : List Pz) : mayFrom last (newM g :: l) = true ↔ (0 < g.new.length ∧ last ≤ g.at_ ∧ g.at_ ≤ MAXA ∧ g.at_ + g.new.length ≤ MAXA ∧ mayFrom (g.at_ + g.new.length) l = true) := by
  rw [mayFrom]
  simp only [Bool.and_eq_true, decide_eq_true_eq]
  exact ⟨fun ⟨⟨⟨⟨⟨⟨h1, _⟩, _⟩, h4⟩, h5⟩, h6⟩, h7⟩ => ⟨h1, h4, h5, h6, h7⟩, fun ⟨h1, h4, h5, h6, h7⟩ => ⟨⟨⟨⟨⟨⟨h1, by show (1 : Int) ≤ 1; omega⟩, by show (1 : Int) ≤ 7; omega⟩, h4⟩, h5⟩, h6⟩, h7⟩⟩
theorem okFrom_is (lost gained : List Cz) : ∀ (P : List Gz) (last : Nat), okFrom lost gained last P = (mayFrom last (P.map oldM) && mayFrom last (P.map newM) && !P.any longM && !meetC (cellsZ (P.map oldM)) lost && !meetC (cellsZ (P.map oldM)) gained)
  | [], last => rfl
  | g :: P, last => by
    have e : cellsZ ((g :: P).map oldM) = cellsAt 1 g.at_ g.old ++ cellsZ (P.map oldM) := rfl
    rw [okFrom, okFrom_is lost gained P, e, meetC_app, meetC_app, List.any_cons, List.map_cons, List.map_cons]
    unfold okPatch longM
    rw [Bool.eq_iff_iff]
    simp only [Bool.and_eq_true, Bool.or_eq_true, decide_eq_true_eq, Bool.not_eq_true', Bool.or_eq_false_iff, bne_eq_false_iff_eq, may_old, may_new]
    constructor
    · rintro ⟨⟨⟨⟨⟨⟨⟨h1, h2⟩, h3⟩, h4⟩, h5⟩, h6⟩, h7⟩, ⟨⟨⟨h8, h9⟩, h10⟩, h11⟩, h12⟩
      exact ⟨⟨⟨⟨⟨h1, h5, h3, h4, h8⟩, ⟨by omega, h5, h3, by omega, by rw [h2]; exact h9⟩⟩, h2.symm, h10⟩, h6, h11⟩, h7, h12⟩
    · rintro ⟨⟨⟨⟨⟨h1, h5, h3, h4, h8⟩, ⟨-, -, -, -, h9⟩⟩, h2, h10⟩, h6, h11⟩, h7, h12⟩
      exact ⟨⟨⟨⟨⟨⟨⟨h1, h2.symm⟩, h3⟩, h4⟩, h5⟩, h6⟩, h7⟩, ⟨⟨⟨h8, by rw [h2]; exact h9⟩, h10⟩, h11⟩, h12⟩
/-- What the document answers. -/
def mayRowsR (r : Rz) : Bool := mayZ r.lost && mayZ r.gained && okFrom (cellsZ r.lost) (cellsZ r.gained) 0 r.patches
theorem mayRowsR_is (r : Rz) : mayRowsR r = mayRowsZ r := by
  unfold mayRowsR mayRowsZ
  rw [okFrom_is]
  unfold mayZ
  simp only [Bool.and_assoc]
  rfl
/-- Off the places. -/
theorem meet_none {q : Int} {a : Nat} {l : List UInt8} {C : List Cz} (h : ∀ k, k < l.length → ∀ c ∈ C, c.at_ ≠ a + k) : meetC (cellsAt q a l) C = false := by
  rw [← Bool.not_eq_true, meetC_iff]
  rintro ⟨c, hc, d, hd, e⟩
  obtain ⟨h1, h2, -⟩ := mem_cellsAt hc
  exact h (c.at_ - a) (by omega) d hd (by omega)
theorem meet_some {q : Int} {a : Nat} {l : List UInt8} {C : List Cz} {k : Nat} (hk : k < l.length) {c : Cz} (hc : c ∈ C) (e : c.at_ = a + k) : meetC (cellsAt q a l) C = true := by
  rw [meetC_iff]
  have := List.mem_of_getElem? (cellsAt_get q a l k _ (List.getElem?_eq_getElem hk))
  exact ⟨_, this, c, hc, e.symm⟩
end Go.Proofs.Ythlnjfnjmjdohaa

namespace Go.Proofs.Ythlnjfnjmjdohaa
set_option linter.unusedSimpArgs false
set_option linter.unusedVariables false

theorem merge_nil (y : List Cz) : mergeR [] y = ([], y, []) := by unfold mergeR; rfl
theorem merge_nilr (x : List Cz) : mergeR x [] = (x, [], []) := by cases x <;> (unfold mergeR; rfl)
/-- What is still to come, and what was told. -/
structure RmI (x y : List Cz) (i k : Nat) (Cl Cg : List Cz) (P : List Gz) (last : Nat) : Prop where
  l : Cl ++ (mergeR (x.drop i) (y.drop k)).1 = (mergeR x y).1
  g : Cg ++ (mergeR (x.drop i) (y.drop k)).2.1 = (mergeR x y).2.1
  p : (mergeR (x.drop i) (y.drop k)).2.2.foldl pushD P = (mergeR x y).2.2.foldl pushD []
  last : P = [] ∨ ∃ init q, P = init ++ [q] ∧ q.at_ + q.old.length = last + 1
  ok : ∀ q ∈ P, q.old ≠ [] ∧ q.new.length = q.old.length ∧ q.at_ + q.old.length ≤ MAXA
  cl : Cl.length ≤ i
  cg : Cg.length ≤ k
  cp : P.length ≤ i
theorem rm_start (x y : List Cz) : RmI x y 0 0 [] [] [] 0 := ⟨rfl, rfl, rfl, .inl rfl, (fun q hq => by cases hq), Nat.le_refl _, Nat.le_refl _, Nat.le_refl _⟩
theorem drop_at {α : Type} {l : List α} {i : Nat} {a : α} (h : l[i]? = some a) : l.drop i = a :: l.drop (i + 1) := by
  obtain ⟨h1, rfl⟩ := List.getElem?_eq_some_iff.1 h
  exact List.drop_eq_getElem_cons h1
section
variable {x y : List Cz} {i k : Nat} {Cl Cg : List Cz} {P : List Gz} {last : Nat} {c d : Cz}
/-- A byte is lost. -/
theorem RmI.lost (h : RmI x y i k Cl Cg P last) (hc : x[i]? = some c) (hd : y.length ≤ k ∨ ∃ d, y[k]? = some d ∧ c.at_ < d.at_) : RmI x y (i + 1) k (Cl ++ [c]) Cg P last := by
  have e : mergeR (x.drop i) (y.drop k) = (c :: (mergeR (x.drop (i + 1)) (y.drop k)).1, (mergeR (x.drop (i + 1)) (y.drop k)).2.1, (mergeR (x.drop (i + 1)) (y.drop k)).2.2) := by
    rw [drop_at hc]
    rcases hd with hd | ⟨d, hd, hlt⟩
    · rw [List.drop_eq_nil_of_le hd, merge_nilr, merge_nilr]
    · rw [drop_at hd]
      conv => lhs; unfold mergeR
      rw [if_pos hlt]
  have h1 := h.l
  have h2 := h.g
  have h3 := h.p
  rw [e] at h1 h2 h3
  exact ⟨by rw [List.append_assoc]; exact h1, h2, h3, h.last, h.ok, by rw [List.length_append]; have := h.cl; simp; omega, h.cg, Nat.le_succ_of_le h.cp⟩
/-- A byte is gained. -/
theorem RmI.gained (h : RmI x y i k Cl Cg P last) (hd : y[k]? = some d) (hc : x.length ≤ i ∨ ∃ c, x[i]? = some c ∧ d.at_ < c.at_) : RmI x y i (k + 1) Cl (Cg ++ [d]) P last := by
  have e : mergeR (x.drop i) (y.drop k) = ((mergeR (x.drop i) (y.drop (k + 1))).1, d :: (mergeR (x.drop i) (y.drop (k + 1))).2.1, (mergeR (x.drop i) (y.drop (k + 1))).2.2) := by
    rw [drop_at hd]
    rcases hc with hc | ⟨c, hc, hlt⟩
    · rw [List.drop_eq_nil_of_le hc, merge_nil, merge_nil]
    · rw [drop_at hc]
      conv => lhs; unfold mergeR
      rw [if_neg (by omega), if_pos hlt]
  have h1 := h.l
  have h2 := h.g
  have h3 := h.p
  rw [e] at h1 h2 h3
  exact ⟨h1, by rw [List.append_assoc]; exact h2, h3, h.last, h.ok, h.cl, by rw [List.length_append]; have := h.cg; simp; omega, h.cp⟩
theorem merge_eq (hc : x[i]? = some c) (hd : y[k]? = some d) (ha : c.at_ = d.at_) : mergeR (x.drop i) (y.drop k) = if c.prot ≠ d.prot then (c :: (mergeR (x.drop (i + 1)) (y.drop (k + 1))).1, d :: (mergeR (x.drop (i + 1)) (y.drop (k + 1))).2.1, (mergeR (x.drop (i + 1)) (y.drop (k + 1))).2.2)
    else if c.b ≠ d.b then ((mergeR (x.drop (i + 1)) (y.drop (k + 1))).1, (mergeR (x.drop (i + 1)) (y.drop (k + 1))).2.1, ⟨c.at_, c.b, d.b⟩ :: (mergeR (x.drop (i + 1)) (y.drop (k + 1))).2.2) else mergeR (x.drop (i + 1)) (y.drop (k + 1)) := by
  rw [drop_at hc, drop_at hd]
  conv => lhs; unfold mergeR
  rw [if_neg (by omega), if_neg (by omega)]
theorem RmI.both (h : RmI x y i k Cl Cg P last) (hc : x[i]? = some c) (hd : y[k]? = some d) (ha : c.at_ = d.at_) (hp : c.prot ≠ d.prot) : RmI x y (i + 1) (k + 1) (Cl ++ [c]) (Cg ++ [d]) P last := by
  have e := merge_eq hc hd ha
  rw [if_pos hp] at e
  have h1 := h.l
  have h2 := h.g
  have h3 := h.p
  rw [e] at h1 h2 h3
  exact ⟨by rw [List.append_assoc]; exact h1, by rw [List.append_assoc]; exact h2, h3, h.last, h.ok, by rw [List.length_append]; have := h.cl; simp; omega, by rw [List.length_append]; have := h.cg; simp; omega, Nat.le_succ_of_le h.cp⟩
theorem RmI.same (h : RmI x y i k Cl Cg P last) (hc : x[i]? = some c) (hd : y[k]? = some d) (ha : c.at_ = d.at_) (hp : c.prot = d.prot) (hb : c.b = d.b) : RmI x y (i + 1) (k + 1) Cl Cg P last := by
  have e := merge_eq hc hd ha
  rw [if_neg (fun h => h hp), if_neg (fun h => h hb)] at e
  have h1 := h.l
  have h2 := h.g
  have h3 := h.p
  rw [e] at h1 h2 h3
  exact ⟨h1, h2, h3, h.last, h.ok, Nat.le_succ_of_le h.cl, Nat.le_succ_of_le h.cg, Nat.le_succ_of_le h.cp⟩
/-- A byte is patched. -/
theorem RmI.patch (h : RmI x y i k Cl Cg P last) (hc : x[i]? = some c) (hd : y[k]? = some d) (ha : c.at_ = d.at_) (hp : c.prot = d.prot) (hb : c.b ≠ d.b) (hmx : c.at_ < MAXA) : RmI x y (i + 1) (k + 1) Cl Cg (pushD P ⟨c.at_, c.b, d.b⟩) c.at_ := by
  have e := merge_eq hc hd ha
  rw [if_neg (fun h => h hp), if_pos hb] at e
  have h1 := h.l
  have h2 := h.g
  have h3 := h.p
  rw [e] at h1 h2 h3
  refine ⟨h1, h2, h3, .inr ?_, ?_, Nat.le_succ_of_le h.cl, Nat.le_succ_of_le h.cg, Nat.le_trans (pushD_len _ _) (Nat.succ_le_succ h.cp)⟩
  · rcases List.eq_nil_or_concat P with h0 | ⟨m, g, h0⟩
    · rw [h0]; exact ⟨[], _, rfl, rfl⟩
    · rw [h0, List.concat_eq_append, pushD_snoc]
      split
      · rename_i e0
        exact ⟨m, _, rfl, by dsimp only at e0 ⊢; rw [List.length_append]; simp; omega⟩
      · exact ⟨m ++ [g], _, rfl, rfl⟩
  · have hok := h.ok
    rcases List.eq_nil_or_concat P with h0 | ⟨m, g, h0⟩
    · rw [h0]
      intro q hq
      have hq : q = ⟨c.at_, [c.b], [d.b]⟩ := by simpa [pushD] using hq
      subst hq
      exact ⟨by simp, rfl, hmx⟩
    · rw [List.concat_eq_append] at h0
      rw [h0] at hok ⊢
      rw [pushD_snoc]
      have hg := hok g (by simp)
      split
      · rename_i e0
        dsimp only at e0
        intro q hq
        rcases List.mem_append.1 hq with hq | hq
        · exact hok q (List.mem_append_left _ hq)
        · rw [List.mem_singleton] at hq; subst hq
          refine ⟨by simp, by simp [hg.2.1], ?_⟩
          dsimp only
          rw [List.length_append]
          simp
          omega
      · intro q hq
        rcases List.mem_append.1 hq with hq | hq
        · exact hok q hq
        · rw [List.mem_singleton] at hq; subst hq
          exact ⟨by simp, rfl, hmx⟩
theorem RmI.done (h : RmI x y i k Cl Cg P last) (hi : x.length ≤ i) (hk : y.length ≤ k) : Cl = (mergeR x y).1 ∧ Cg = (mergeR x y).2.1 ∧ P = (mergeR x y).2.2.foldl pushD [] := by
  have h1 := h.l
  have h2 := h.g
  have h3 := h.p
  rw [List.drop_eq_nil_of_le hi, List.drop_eq_nil_of_le hk, merge_nil] at h1 h2 h3
  simp at h1 h2 h3
  exact ⟨h1, h2, h3⟩
end
end Go.Proofs.Ythlnjfnjmjdohaa

namespace Go.Proofs.Ythlnjfnjmjdohaa
set_option linter.unusedSimpArgs false
set_option linter.unusedVariables false

theorem byteAt_minus {L D : List Cz} {a : Nat} (h : protAt D a = 0) : byteAt (minusC L D) a = byteAt L a := by
  unfold byteAt minusC
  rw [List.find?_filter]
  congr 2
  funext c
  by_cases e : c.at_ = a
  · rw [e, h]; simp
  · have : (c.at_ == a) = false := by simpa using e
    rw [this]; simp
theorem oth_minus {L D O : List Cz} (h : meetC O D = false) : othC (minusC L D) O = othC L O := by
  unfold othC
  have key : ∀ c ∈ O, byteAt (minusC L D) c.at_ = byteAt L c.at_ := fun c hc => byteAt_minus (protAt_none (fun d hd e => by
    have : meetC O D = true := meetC_iff.2 ⟨c, hc, d, hd, e.symm⟩
    rw [h] at this; cases this))
  induction O with
  | nil => rfl
  | cons c O ih =>
    rw [List.any_cons, List.any_cons, key c List.mem_cons_self, ih (by
      rw [← Bool.not_eq_true, meetC_iff]
      rintro ⟨x, hx, d, hd, e⟩
      have : meetC (c :: O) D = true := meetC_iff.2 ⟨x, List.mem_cons_of_mem _ hx, d, hd, e⟩
      rw [h] at this; cases this) (fun x hx => key x (List.mem_cons_of_mem _ hx))]

/-- Which bytes are gone. -/
def goneC (D : List Cz) (c : Cz) : Bool := D.any fun d => d.at_ == c.at_
theorem goneC_iff {D : List Cz} {c : Cz} : goneC D c = true ↔ ∃ d ∈ D, d.at_ = c.at_ := by unfold goneC; simp
theorem gone_prot {D : List Cz} (h : OkC D) (c : Cz) : (protAt D c.at_ == 0) = !goneC D c := by
  rw [Bool.eq_iff_iff, beq_iff_eq, Bool.not_eq_true', ← Bool.not_eq_true, goneC_iff, protAt_zero h]
  exact ⟨fun h ⟨d, hd, e⟩ => h d hd e, fun h d hd e => h ⟨d, hd, e⟩⟩
theorem minus_gone {L D : List Cz} (h : OkC D) : minusC L D = L.filter (fun c => !goneC D c) := by
  unfold minusC
  congr 1
  funext c
  exact gone_prot h c
theorem pat_filter {L N : List Cz} {D : List Cz} : (patC L N).filter (fun c => !goneC D c) = patC (L.filter (fun c => !goneC D c)) N := by
  unfold patC
  rw [List.filter_map]
  rfl
def goneL (L D : List Cz) : List Bool := L.map (goneC D)
theorem gone_nil (L : List Cz) : goneL L [] = List.replicate L.length false := by
  unfold goneL
  induction L with
  | nil => rfl
  | cons c L ih => rw [List.map_cons, ih, List.length_cons, List.replicate_succ]; rfl
theorem gone_snoc {L D : List Cz} (hL : Up L) {k : Nat} {c d : Cz} (hk : L[k]? = some c) (h : d.at_ = c.at_) : goneL L (D ++ [d]) = (goneL L D).set k true := by
  refine List.ext_getElem? (fun j => ?_)
  unfold goneL
  rw [List.getElem?_map]
  by_cases e : j = k
  · subst e
    rw [hk, List.getElem?_set_self (by rw [List.length_map]; exact (List.getElem?_eq_some_iff.1 hk).1)]
    show some (goneC (D ++ [d]) c) = some true
    rw [goneC_iff.2 ⟨d, by simp, h⟩]
  · rw [List.getElem?_set_ne (Ne.symm e), List.getElem?_map]
    cases hj : L[j]? with
    | none => rfl
    | some x =>
      show some (goneC (D ++ [d]) x) = some (goneC D x)
      have hne : (d.at_ == x.at_) = false := by
        have h1 := hL
        simp only [beq_eq_false_iff_ne]
        intro e2
        rcases Nat.lt_or_gt_of_ne e with q | q
        · have := up_at hL hj hk q; omega
        · have := up_at hL hk hj q; omega
      unfold goneC
      rw [List.any_append]
      simp [hne]
/-- A byte that lies there is the one that is found. -/
theorem found_eq {L : List Cz} (hL : Up L) {k : Nat} {c d : Cz} (hk : L[k]? = some c) (h : c.at_ = d.at_) : d ∈ L ↔ c = d := by
  constructor
  · intro hd
    obtain ⟨j, hj⟩ := List.getElem?_of_mem hd
    rcases Nat.lt_trichotomy j k with q | q | q
    · have := up_at hL hj hk q; omega
    · subst q; rw [hk] at hj; cases hj; rfl
    · have := up_at hL hk hj q; omega
  · rintro rfl; exact List.mem_of_getElem? hk
theorem byte_found {L : List Cz} (hL : Up L) {k : Nat} {c : Cz} (hk : L[k]? = some c) : byteAt L c.at_ = some c.b := byteAt_mem hL (List.mem_of_getElem? hk)

/-- One byte more is patched. -/
theorem byteAt_snoc {N : List Cz} {d : Cz} (hn : ∀ c ∈ N, c.at_ ≠ d.at_) (a : Nat) : byteAt (N ++ [d]) a = if a = d.at_ then some d.b else byteAt N a := by
  unfold byteAt
  rw [List.find?_append]
  by_cases e : a = d.at_
  · rw [if_pos e, List.find?_eq_none.2 (fun c hc => by simpa [e] using hn c hc)]
    simp [e]
  · rw [if_neg e]
    have : ([d].find? fun c => c.at_ == a) = none := by
      rw [List.find?_cons]
      have h2 : (d.at_ == a) = false := by simp only [beq_eq_false_iff_ne]; exact fun h => e h.symm
      rw [h2]; rfl
    rw [this]
    cases N.find? (fun c => c.at_ == a) <;> rfl
theorem pat_nil (L : List Cz) : patC L [] = L := by
  unfold patC
  have : (fun d : Cz => (⟨d.at_, d.prot, (byteAt [] d.at_).getD d.b⟩ : Cz)) = id := by funext d; rfl
  rw [this, List.map_id]
theorem pat_snoc {L N : List Cz} (hL : Up L) {d : Cz} (hn : ∀ c ∈ N, c.at_ ≠ d.at_) {k : Nat} {c : Cz} (hk : (patC L N)[k]? = some c) (h : c.at_ = d.at_) : patC L (N ++ [d]) = (patC L N).set k ⟨c.at_, c.prot, d.b⟩ := by
  have hLN := up_patC (B := N) hL
  refine List.ext_getElem? (fun j => ?_)
  have hl := (List.getElem?_eq_some_iff.1 hk).1
  unfold patC at hk hl ⊢
  rw [List.getElem?_map] at hk ⊢
  obtain ⟨x, hx, ex⟩ := Option.map_eq_some_iff.1 hk
  by_cases e : j = k
  · subst e
    rw [List.getElem?_set_self hl, hx]
    show some _ = some _
    dsimp only
    rw [byteAt_snoc hn, if_pos (by rw [← ex] at h; exact h), ← ex]
    rfl
  · rw [List.getElem?_set_ne (Ne.symm e), List.getElem?_map]
    cases hj : L[j]? with
    | none => rfl
    | some y =>
      show some _ = some _
      have hne : y.at_ ≠ d.at_ := fun e2 => by
        have e3 : x.at_ = d.at_ := by rw [← ex] at h; exact h
        rcases Nat.lt_or_gt_of_ne e with q | q
        · have := up_at hL hj hx q; omega
        · have := up_at hL hx hj q; omega
      dsimp only
      rw [byteAt_snoc hn, if_neg hne]

/-- The document's way through both. -/
structure MgI (A G : List Cz) (nf : Cz → Bool) (i k : Nat) (out : List Cz) : Prop where
  a : out ++ mergeC ((A.drop i).filter nf) (G.drop k) = mergeC (A.filter nf) G
  b : meetC ((A.drop i).filter nf) (G.drop k) = meetC (A.filter nf) G
  li : i ≤ A.length
  lk : k ≤ G.length
  lo : out.length ≤ i + k
theorem mergeC_nil (y : List Cz) : mergeC [] y = y := by unfold mergeC; rfl
theorem mergeC_nilr (x : List Cz) : mergeC x [] = x := by cases x <;> (unfold mergeC; rfl)
theorem meetC_nil (y : List Cz) : meetC [] y = false := rfl
theorem meetC_nilr (x : List Cz) : meetC x [] = false := by unfold meetC; simp
theorem meetC_cons {c : Cz} {x y : List Cz} (h : ∀ d ∈ y, c.at_ ≠ d.at_) : meetC (c :: x) y = meetC x y := by
  unfold meetC
  rw [List.any_cons]
  have : (y.any fun d => c.at_ == d.at_) = false := by
    rw [← Bool.not_eq_true, List.any_eq_true]
    rintro ⟨d, hd, e⟩
    exact h d hd (by simpa using e)
  rw [this, Bool.false_or]
theorem meetC_consr {d : Cz} {x y : List Cz} (h : ∀ c ∈ x, c.at_ ≠ d.at_) : meetC x (d :: y) = meetC x y := by
  rw [Bool.eq_iff_iff, meetC_iff, meetC_iff]
  constructor
  · rintro ⟨c, hc, e, he, q⟩
    rcases List.mem_cons.1 he with rfl | he
    · exact absurd q (h c hc)
    · exact ⟨c, hc, e, he, q⟩
  · rintro ⟨c, hc, e, he, q⟩; exact ⟨c, hc, e, List.mem_cons_of_mem _ he, q⟩
section
variable {A G : List Cz} {nf : Cz → Bool} {i k : Nat} {out : List Cz} {c d : Cz}
theorem mg_start (A G : List Cz) (nf : Cz → Bool) : MgI A G nf 0 0 [] := ⟨rfl, rfl, Nat.zero_le _, Nat.zero_le _, Nat.zero_le _⟩
theorem up_drop {l : List Cz} (h : Up l) (n : Nat) : Up (l.drop n) := List.Pairwise.sublist (List.drop_sublist n l) h
theorem MgI.skip (h : MgI A G nf i k out) (hc : A[i]? = some c) (hn : nf c = false) : MgI A G nf (i + 1) k out := by
  have e : (A.drop i).filter nf = (A.drop (i + 1)).filter nf := by rw [drop_at hc, List.filter_cons, hn]; rfl
  have h1 := h.a
  have h2 := h.b
  rw [e] at h1 h2
  exact ⟨h1, h2, (List.getElem?_eq_some_iff.1 hc).1, h.lk, by have := h.lo; omega⟩
theorem MgI.takeC (hA : Up A) (hG : Up G) (h : MgI A G nf i k out) (hc : A[i]? = some c) (hn : nf c = true) (hd : G.length ≤ k ∨ ∃ d, G[k]? = some d ∧ c.at_ < d.at_) : MgI A G nf (i + 1) k (out ++ [c]) := by
  have e : (A.drop i).filter nf = c :: (A.drop (i + 1)).filter nf := by rw [drop_at hc, List.filter_cons, hn]; rfl
  have h1 := h.a
  have h2 := h.b
  rw [e] at h1 h2
  have e1 : mergeC (c :: (A.drop (i + 1)).filter nf) (G.drop k) = c :: mergeC ((A.drop (i + 1)).filter nf) (G.drop k) := by
    rcases hd with hd | ⟨d, hd, hlt⟩
    · rw [List.drop_eq_nil_of_le hd, mergeC_nilr, mergeC_nilr]
    · rw [drop_at hd]
      conv => lhs; unfold mergeC
      rw [if_pos hlt]
  have e2 : meetC (c :: (A.drop (i + 1)).filter nf) (G.drop k) = meetC ((A.drop (i + 1)).filter nf) (G.drop k) := by
    refine meetC_cons (fun x hx => ?_)
    rcases hd with hd | ⟨d, hd, hlt⟩
    · rw [List.drop_eq_nil_of_le hd] at hx; cases hx
    · have hu := up_drop hG k
      rw [drop_at hd] at hu hx
      rcases List.mem_cons.1 hx with rfl | hx
      · omega
      · have : d.at_ < x.at_ := List.rel_of_pairwise_cons hu hx
        omega
  rw [e1] at h1
  rw [e2] at h2
  exact ⟨by rw [List.append_assoc]; exact h1, h2, (List.getElem?_eq_some_iff.1 hc).1, h.lk, by rw [List.length_append]; have := h.lo; simp; omega⟩
theorem MgI.takeG (hA : Up A) (hG : Up G) (h : MgI A G nf i k out) (hd : G[k]? = some d) (hc : A.length ≤ i ∨ ∃ c, A[i]? = some c ∧ nf c = true ∧ d.at_ < c.at_) : MgI A G nf i (k + 1) (out ++ [d]) := by
  have h1 := h.a
  have h2 := h.b
  rw [drop_at hd] at h1 h2
  have e1 : mergeC ((A.drop i).filter nf) (d :: G.drop (k + 1)) = d :: mergeC ((A.drop i).filter nf) (G.drop (k + 1)) := by
    rcases hc with hc | ⟨c, hc, hn, hlt⟩
    · rw [List.drop_eq_nil_of_le hc, List.filter_nil, mergeC_nil, mergeC_nil]
    · have e : (A.drop i).filter nf = c :: (A.drop (i + 1)).filter nf := by rw [drop_at hc, List.filter_cons, hn]; rfl
      rw [e]
      conv => lhs; unfold mergeC
      rw [if_neg (by omega)]
  have e2 : meetC ((A.drop i).filter nf) (d :: G.drop (k + 1)) = meetC ((A.drop i).filter nf) (G.drop (k + 1)) := by
    refine meetC_consr (fun x hx => ?_)
    rcases hc with hc | ⟨c, hc, hn, hlt⟩
    · rw [List.drop_eq_nil_of_le hc] at hx; cases hx
    · have hx := (List.mem_filter.1 hx).1
      have hu := up_drop hA i
      rw [drop_at hc] at hu hx
      rcases List.mem_cons.1 hx with rfl | hx
      · omega
      · have : c.at_ < x.at_ := List.rel_of_pairwise_cons hu hx
        omega
  rw [e1] at h1
  rw [e2] at h2
  exact ⟨by rw [List.append_assoc]; exact h1, h2, h.li, (List.getElem?_eq_some_iff.1 hd).1, by rw [List.length_append]; have := h.lo; simp; omega⟩
theorem MgI.twice (h : MgI A G nf i k out) (hc : A[i]? = some c) (hn : nf c = true) (hd : G[k]? = some d) (he : c.at_ = d.at_) : meetC (A.filter nf) G = true :=
  meetC_iff.2 ⟨c, List.mem_filter.2 ⟨List.mem_of_getElem? hc, hn⟩, d, List.mem_of_getElem? hd, he⟩
theorem MgI.done (h : MgI A G nf i k out) (hi : A.length ≤ i) (hk : G.length ≤ k) : out = mergeC (A.filter nf) G ∧ meetC (A.filter nf) G = false := by
  have h1 := h.a
  have h2 := h.b
  rw [List.drop_eq_nil_of_le hi, List.drop_eq_nil_of_le hk, List.filter_nil, mergeC_nil, List.append_nil] at h1
  rw [List.drop_eq_nil_of_le hi, List.filter_nil, meetC_nil] at h2
  exact ⟨h1, h2.symm⟩
end
end Go.Proofs.Ythlnjfnjmjdohaa
