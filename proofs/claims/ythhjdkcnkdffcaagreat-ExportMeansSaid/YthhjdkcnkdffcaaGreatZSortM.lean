/- Exports by rising names: plain laws. No program in sight. -/
import Derived.Test.YthhjdkcnkdffcaaGreatZLebM
import Derived.Shelf.SlSortCmp.NoneTotal
namespace Go.Proofs.YthhjdkcnkdffcaaGreat
set_option linter.unusedSimpArgs false
set_option linter.unusedVariables false
open Go.Sort
instance : Inhabited Exp := ⟨Exp.zero⟩
/-- One name stands ahead of another one, or is the same. -/
def nameLe (a b : Exp) : Bool := !ltStr b.name a.name
def cmpS (a b : List UInt8) : Int := if ltStr a b then -1 else if ltStr b a then 1 else 0
def cmpE (a b : Exp) : Int := cmpS a.name b.name
theorem ltE (x y : Exp) : Go.Proofs.ltOf cmpE x y = ltStr x.name y.name := by
  unfold Go.Proofs.ltOf cmpE cmpS
  cases h1 : ltStr x.name y.name
  · cases h2 : ltStr y.name x.name <;> simp
  · simp
theorem swoE : SWO (Go.Proofs.ltOf cmpE) where
  irrefl x := by rw [ltE]; exact swo_ltStr.irrefl _
  trans x y z h1 h2 := by rw [ltE] at *; exact swo_ltStr.trans _ _ _ h1 h2
  ntrans x y z h1 h2 := by rw [ltE] at *; exact swo_ltStr.ntrans _ _ _ h1 h2
theorem ltStr_anti {x y : List UInt8} (h1 : ltStr x y = false) (h2 : ltStr y x = false) : x = y := by
  simp only [ltStr, decide_eq_false_iff_not, List.not_lt] at h1 h2
  exact List.le_antisymm h2 h1
/-- Exports by rising names. -/
def byNames (l : List Exp) : List Exp := l.mergeSort nameLe
theorem nameLe_trans (a b c : Exp) (h1 : nameLe a b = true) (h2 : nameLe b c = true) : nameLe a c = true := by
  unfold nameLe at *
  simp only [Bool.not_eq_true'] at *
  exact swo_ltStr.ntrans _ _ _ h2 h1
theorem ltStr_asymm {x y : List UInt8} (h : ltStr x y = true) : ltStr y x = false := by
  cases h2 : ltStr y x
  · rfl
  · have := swo_ltStr.trans _ _ _ h h2
    rw [swo_ltStr.irrefl] at this; cases this
theorem nameLe_total (a b : Exp) : (nameLe a b || nameLe b a) = true := by
  unfold nameLe
  cases h : ltStr b.name a.name
  · simp
  · rw [ltStr_asymm h]; simp
theorem byNames_perm (l : List Exp) : (byNames l).Perm l := List.mergeSort_perm _ _
theorem byNames_sorted (l : List Exp) : (byNames l).Pairwise (fun a b => nameLe a b = true) := List.pairwise_mergeSort nameLe_trans nameLe_total l
/-- Names that differ from one another. -/
def NamesApart (l : List Exp) : Prop := l.Pairwise (fun x y => x.name ≠ y.name)
theorem apart_of_mem {l : List Exp} (h : NamesApart l) {x y : Exp} (hx : x ∈ l) (hy : y ∈ l) (he : x.name = y.name) : x = y := by
  induction l with
  | nil => cases hx
  | cons z l ih =>
    have hp := List.pairwise_cons.1 h
    rcases List.mem_cons.1 hx with e1 | h1
    · rcases List.mem_cons.1 hy with e2 | h2
      · rw [e1, e2]
      · rw [e1] at he; exact absurd he (hp.1 y h2)
    · rcases List.mem_cons.1 hy with e2 | h2
      · rw [e2] at he; exact absurd he.symm (hp.1 x h1)
      · exact ih hp.2 h1 h2
/-- There is one order by names alone. -/
theorem byNames_unique {l l' : List Exp} (h : NamesApart l) (hp : l'.Perm l) (hs : l'.Pairwise (fun a b => nameLe a b = true)) : l' = byNames l := by
  refine List.Perm.eq_of_pairwise (le := fun a b => nameLe a b = true) (fun a b ha hb h1 h2 => ?_) hs (byNames_sorted l) (hp.trans (byNames_perm l).symm)
  refine apart_of_mem h (hp.mem_iff.1 ha) ((byNames_perm l).mem_iff.1 hb) ?_
  unfold nameLe at h1 h2
  simp only [Bool.not_eq_true'] at h1 h2
  exact ltStr_anti h2 h1
theorem sorted_list {d' : Array Exp} (h : SortedIn (Go.Proofs.ltOf cmpE) 0 d'.size d') : d'.toList.Pairwise (fun a b => nameLe a b = true) := by
  rw [List.pairwise_iff_getElem]
  intro i j hi hj hij
  have hi' : i < d'.size := by simpa using hi
  have hj' : j < d'.size := by simpa using hj
  have := h i j (Nat.zero_le _) hij hj'
  rw [getElem!_pos d' j hj', getElem!_pos d' i hi', ltE] at this
  unfold nameLe
  simpa using this
theorem sorted_is {d d' : Array Exp} (h : NamesApart d.toList) (hp : PermIn 0 d.size d d') (hs : SortedIn (Go.Proofs.ltOf cmpE) 0 d.size d') : d'.toList = byNames d.toList := by
  obtain ⟨h1, -, h3⟩ := hp
  refine byNames_unique h ?_ (sorted_list (by rw [h1]; exact hs))
  have e1 : d'.extract 0 d.size = d' := by rw [← h1]; simp
  have e2 : d.extract 0 d.size = d := by simp
  rw [e1, e2] at h3; exact h3
end Go.Proofs.YthhjdkcnkdffcaaGreat

namespace Go.Proofs.YthhjdkcnkdffcaaGreat
set_option linter.unusedSimpArgs false
set_option linter.unusedVariables false
open Go.Sort
/-! ### what two texts begin with, both -/
def shareL : List UInt8 → List UInt8 → List UInt8
  | a :: r, b :: s => if a = b then a :: shareL r s else []
  | _, _ => []
theorem share_iff : ∀ (a b c : List UInt8), c <+: shareL a b ↔ c <+: a ∧ c <+: b
  | [], b, c => by
    have e : shareL [] b = [] := by cases b <;> rfl
    rw [e]
    constructor
    · intro h; rw [List.prefix_nil] at h; subst h; exact ⟨List.nil_prefix, List.nil_prefix⟩
    · intro h; exact h.1
  | x :: a, [], c => by
    have e : shareL (x :: a) [] = [] := rfl
    rw [e]
    constructor
    · intro h; rw [List.prefix_nil] at h; subst h; exact ⟨List.nil_prefix, List.nil_prefix⟩
    · intro h; exact h.2
  | x :: a, y :: b, c => by
    rw [shareL]
    cases c with
    | nil => simp
    | cons z c =>
      by_cases h : x = y
      · subst h
        rw [if_pos rfl, List.cons_prefix_cons, List.cons_prefix_cons, List.cons_prefix_cons, share_iff a b c]
        constructor
        · rintro ⟨rfl, h1, h2⟩; exact ⟨⟨rfl, h1⟩, rfl, h2⟩
        · rintro ⟨⟨rfl, h1⟩, -, h2⟩; exact ⟨rfl, h1, h2⟩
      · rw [if_neg h, List.cons_prefix_cons, List.cons_prefix_cons]
        constructor
        · intro h1; simp at h1
        · rintro ⟨⟨rfl, -⟩, rfl, -⟩; exact absurd rfl h
theorem share_left (a b : List UInt8) : shareL a b <+: a := ((share_iff a b _).1 List.prefix_rfl).1
theorem share_right (a b : List UInt8) : shareL a b <+: b := ((share_iff a b _).1 List.prefix_rfl).2
theorem prefix_eq {a b : List UInt8} (h : a <+: b) (hl : b.length ≤ a.length) : a = b := h.eq_of_length_le hl
theorem prefix_both {a b c : List UInt8} (h1 : a <+: c) (h2 : b <+: c) (hl : a.length ≤ b.length) : a <+: b := List.prefix_of_prefix_length_le h1 h2 hl
/-- One byte more. -/
theorem prefix_more {a b : List UInt8} (h : a <+: b) (hl : a.length < b.length) : ∃ c, a ++ [c] <+: b := by
  obtain ⟨t, rfl⟩ := h
  cases t with
  | nil => simp at hl
  | cons c t => exact ⟨c, t, by simp⟩
theorem snoc_inj {a b : List UInt8} {c d : UInt8} (h1 : a ++ [c] <+: b) (h2 : a ++ [d] <+: b) : c = d := by
  have := prefix_eq (prefix_both h1 h2 (by simp)) (by simp)
  simpa using this
/-! ### how names stand to one another -/
theorem lt_def (x y : List UInt8) : ltStr x y = true ↔ x < y := by unfold ltStr; rw [decide_eq_true_eq]
theorem ltStr_cons (a b : UInt8) (x y : List UInt8) : ltStr (a :: x) (b :: y) = true ↔ a < b ∨ a = b ∧ ltStr x y = true := by
  rw [lt_def, lt_def, List.cons_lt_cons_iff]
theorem ltStr_nil (x : List UInt8) : ltStr [] x = true ↔ x ≠ [] := by
  rw [lt_def]
  cases x with
  | nil => simp
  | cons a x => simp
theorem ltStr_app (p x y : List UInt8) : ltStr (p ++ x) (p ++ y) = true ↔ ltStr x y = true := by
  induction p with
  | nil => exact Iff.rfl
  | cons a p ih =>
    rw [List.cons_append, List.cons_append, ltStr_cons, ih]
    constructor
    · rintro (h | h)
      · exact absurd h (by simp)
      · exact h.2
    · intro h; exact .inr ⟨rfl, h⟩
theorem ltStr_trans {x y z : List UInt8} (h1 : ltStr x y = true) (h2 : ltStr y z = true) : ltStr x z = true := swo_ltStr.trans _ _ _ h1 h2
theorem ltStr_irr (x : List UInt8) : ltStr x x = false := swo_ltStr.irrefl _
theorem ltStr_ne {x y : List UInt8} (h : ltStr x y = true) : x ≠ y := by rintro rfl; rw [ltStr_irr] at h; cases h
/-- Where names part. -/
theorem lt_of_part {p u v : List UInt8} {c d : UInt8} (h1 : p ++ [c] <+: u) (h2 : p ++ [d] <+: v) (h : c < d) : ltStr u v = true := by
  obtain ⟨s, rfl⟩ := h1
  obtain ⟨t, rfl⟩ := h2
  rw [List.append_assoc, List.append_assoc, ltStr_app]
  exact (ltStr_cons _ _ _ _).2 (.inl h)
theorem part_of_lt {p u v : List UInt8} {c d : UInt8} (h1 : p ++ [c] <+: u) (h2 : p ++ [d] <+: v) (h : ltStr u v = true) : c < d ∨ c = d := by
  obtain ⟨s, rfl⟩ := h1
  obtain ⟨t, rfl⟩ := h2
  rw [List.append_assoc, List.append_assoc, ltStr_app] at h
  rcases (ltStr_cons _ _ _ _).1 h with h | h
  · exact .inl h
  · exact .inr h.1
theorem lt_of_prefix {p u : List UInt8} (h : p <+: u) (hl : p.length < u.length) : ltStr p u = true := by
  obtain ⟨t, rfl⟩ := h
  have := (ltStr_app p [] t).2 ((ltStr_nil t).2 (by intro e; subst e; simp at hl))
  rwa [List.append_nil] at this
/-- A name that stands between two has what both begin with. -/
theorem between : ∀ {p a b c : List UInt8}, p <+: a → p <+: c → ltStr b a = false → ltStr c b = false → p <+: b
  | [], _, _, _, _, _, _, _ => List.nil_prefix
  | x :: p, a, b, c, h1, h2, h3, h4 => by
    obtain ⟨s, rfl⟩ := h1
    obtain ⟨t, rfl⟩ := h2
    cases b with
    | nil =>
      have := (ltStr_nil (x :: p ++ s)).2 (by simp)
      rw [this] at h3; cases h3
    | cons y b =>
      have n1 : ¬ (ltStr (y :: b) (x :: (p ++ s)) = true) := by rw [← List.cons_append, h3]; simp
      have n2 : ¬ (ltStr (x :: (p ++ t)) (y :: b) = true) := by rw [← List.cons_append, h4]; simp
      rw [ltStr_cons] at n1 n2
      have e : x = y := by
        rcases Nat.lt_trichotomy x.toNat y.toNat with h | h | h
        · exact absurd (.inl h) n2
        · exact UInt8.toNat_inj.1 h
        · exact absurd (.inl h) n1
      subst e
      rw [List.cons_prefix_cons]
      refine ⟨rfl, between (a := p ++ s) (c := p ++ t) ⟨s, rfl⟩ ⟨t, rfl⟩ ?_ ?_⟩
      · cases h : ltStr b (p ++ s) with
        | false => rfl
        | true => exact absurd (.inr ⟨rfl, h⟩) n1
      · cases h : ltStr (p ++ t) b with
        | false => rfl
        | true => exact absurd (.inr ⟨rfl, h⟩) n2
/-- Exports by rising names, no two alike. -/
def Srt (l : List Exp) : Prop := l.Pairwise (fun a b => ltStr a.name b.name = true)
/-- Two lists that rise, and have the same in them, are the same. -/
theorem rising_eq {l m : List (List UInt8)} (hl : l.Pairwise (fun a b => ltStr a b = true)) (hm : m.Pairwise (fun a b => ltStr a b = true)) (h : ∀ x, x ∈ l ↔ x ∈ m) : l = m := by
  have nl : l.Nodup := hl.imp (fun h => ltStr_ne h)
  have nm : m.Nodup := hm.imp (fun h => ltStr_ne h)
  have hp : l.Perm m := (List.perm_ext_iff_of_nodup nl nm).2 h
  refine List.Perm.eq_of_pairwise (le := fun a b => ltStr a b = true) (fun a b _ _ h1 h2 => ?_) hl hm hp
  rw [ltStr_asymm h1] at h2; cases h2
/-! ### the forest -/
/-- Nodes side by side: an edge, what is said there, its children; and those behind it. -/
inductive Fo where
  | nil : Fo
  | cons (edge : List UInt8) (says : Option Exp) (kids next : Fo) : Fo
def Fo.size : Fo → Nat
  | .nil => 0
  | .cons _ _ k n => 1 + k.size + n.size
def Fo.roots : Fo → Nat
  | .nil => 0
  | .cons _ _ _ n => 1 + n.roots
def Fo.exps : Fo → List Exp
  | .nil => []
  | .cons _ s k n => s.toList ++ (k.exps ++ n.exps)
def Fo.names : Fo → List UInt8 → List (List UInt8)
  | .nil, _ => []
  | .cons e _ k n, p => (p ++ e) :: (k.names (p ++ e) ++ n.names p)
def Fo.edges : Fo → List (List UInt8)
  | .nil => []
  | .cons e _ _ n => e :: n.edges
theorem Fo.names_len : ∀ (F : Fo) (p : List UInt8), (F.names p).length = F.size
  | .nil, _ => rfl
  | .cons e s k n, p => by simp only [Fo.names, Fo.size, List.length_cons, List.length_append, Fo.names_len k, Fo.names_len n]; omega
/-- As exports are tied, that begin with p: those that go on alike first. -/
inductive Tied : List UInt8 → List Exp → Fo → Prop
  | nil (p : List UInt8) : Tied p [] .nil
  | cons (p q : List UInt8) (c : UInt8) (x : Exp) (g0 rest g1 : List Exp) (says : Option Exp) (K F : Fo)
      (hc : p ++ [c] <+: q) (hin : ∀ y ∈ x :: g0, q <+: y.name) (hq : q = shareL x.name ((x :: g0).getLast (by simp)).name)
      (hout : ∀ y ∈ rest, ∃ d, p ++ [d] <+: y.name ∧ c < d)
      (hs : (says = some x ∧ x.name = q ∧ g1 = g0) ∨ (says = none ∧ q.length < x.name.length ∧ g1 = x :: g0 ∧ 2 ≤ K.roots))
      (hK : Tied q g1 K) (hF : Tied p rest F) : Tied p (x :: g0 ++ rest) (.cons (q.drop p.length) says K F)
/-- All begin with p, and go on. -/
def Onto (p : List UInt8) (l : List Exp) : Prop := ∀ y ∈ l, p <+: y.name ∧ p.length < y.name.length
/-- A measure of what is to be tied. -/
def weigh (p : List UInt8) (l : List Exp) : Nat := (l.map (fun y => y.name.length - p.length)).sum
theorem weigh_app (p : List UInt8) (a b : List Exp) : weigh p (a ++ b) = weigh p a + weigh p b := by simp [weigh]
theorem weigh_pos {p : List UInt8} {x : Exp} {g : List Exp} (h : p.length < x.name.length) : 0 < weigh p (x :: g) := by
  simp only [weigh, List.map_cons, List.sum_cons]; omega
theorem weigh_mono {p q : List UInt8} (h : p.length ≤ q.length) : ∀ l : List Exp, weigh q l ≤ weigh p l
  | [] => Nat.le_refl _
  | y :: l => by
    have := weigh_mono h l
    simp only [weigh, List.map_cons, List.sum_cons] at this ⊢
    omega
/-- Those that go on alike, and the others. -/
theorem split_group {p : List UInt8} {c : UInt8} : ∀ (l : List Exp), Srt l → Onto p l → (∀ y ∈ l, ∃ d, p ++ [d] <+: y.name ∧ (c < d ∨ c = d)) →
    ∃ g rest, l = g ++ rest ∧ (∀ y ∈ g, p ++ [c] <+: y.name) ∧ ∀ y ∈ rest, ∃ d, p ++ [d] <+: y.name ∧ c < d
  | [], _, _, _ => ⟨[], [], rfl, by simp, by simp⟩
  | y :: l, hs, ho, hd => by
    obtain ⟨d, h1, h2⟩ := hd y (by simp)
    rcases h2 with h2 | h2
    · refine ⟨[], y :: l, rfl, by simp, fun z hz => ?_⟩
      rcases List.mem_cons.1 hz with rfl | hz'
      · exact ⟨d, h1, h2⟩
      · obtain ⟨d', h3, -⟩ := hd z hz
        refine ⟨d', h3, ?_⟩
        rcases part_of_lt h1 h3 ((List.pairwise_cons.1 hs).1 z hz') with h4 | h4
        · exact UInt8.lt_trans h2 h4
        · rw [← h4]; exact h2
    · subst h2
      obtain ⟨g, rest, rfl, h3, h4⟩ := split_group l (List.pairwise_cons.1 hs).2 (fun z hz => ho z (by simp [hz])) (fun z hz => hd z (by simp [hz]))
      refine ⟨y :: g, rest, rfl, fun z hz => ?_, h4⟩
      rcases List.mem_cons.1 hz with rfl | hz'
      · exact h1
      · exact h3 z hz'
theorem last_le {x : Exp} : ∀ {g : List Exp}, Srt (x :: g) → ∀ y ∈ x :: g, ltStr ((x :: g).getLast (by simp)).name y.name = false := by
  intro g hs y hy
  by_cases e : y = (x :: g).getLast (by simp)
  · rw [← e]; exact ltStr_irr _
  · have he : (x :: g).dropLast ++ [(x :: g).getLast (by simp)] = x :: g := List.dropLast_concat_getLast _
    have hmem : y ∈ (x :: g).dropLast := by
      rw [← he] at hy
      rcases List.mem_append.1 hy with h | h
      · exact h
      · exact absurd (by simpa using h) e
    have hp : Srt ((x :: g).dropLast ++ [(x :: g).getLast (by simp)]) := by rw [he]; exact hs
    exact ltStr_asymm ((List.pairwise_append.1 hp).2.2 y hmem _ (by simp))
theorem first_le {x : Exp} {g : List Exp} (hs : Srt (x :: g)) : ∀ y ∈ x :: g, ltStr y.name x.name = false := by
  intro y hy
  rcases List.mem_cons.1 hy with rfl | h
  · exact ltStr_irr _
  · exact ltStr_asymm ((List.pairwise_cons.1 hs).1 y h)
theorem Tied.roots_pos {p : List UInt8} {l : List Exp} {F : Fo} (h : Tied p l F) (hl : l ≠ []) : 1 ≤ F.roots := by
  cases h with
  | nil => exact absurd rfl hl
  | cons => show 1 ≤ 1 + _; omega
/-- All can be tied. -/
theorem tied_any : ∀ (m : Nat) (p : List UInt8) (l : List Exp), weigh p l ≤ m → Srt l → Onto p l → ∃ F, Tied p l F := by
  intro m
  induction m with
  | zero =>
    intro p l hm hs ho
    cases l with
    | nil => exact ⟨_, .nil p⟩
    | cons x l => have := weigh_pos (g := l) (ho x (by simp)).2; omega
  | succ m ih =>
    intro p l hm hs ho
    cases l with
    | nil => exact ⟨_, .nil p⟩
    | cons x l =>
      obtain ⟨c, hcx⟩ := prefix_more (ho x (by simp)).1 (ho x (by simp)).2
      obtain ⟨g0, rest, hl, hg, hr⟩ := split_group (p := p) (c := c) l (List.pairwise_cons.1 hs).2 (fun z hz => ho z (by simp [hz])) (fun z hz => by
        obtain ⟨d, hd⟩ := prefix_more (ho z (by simp [hz])).1 (ho z (by simp [hz])).2
        exact ⟨d, hd, part_of_lt hcx hd ((List.pairwise_cons.1 hs).1 z hz)⟩)
      subst hl
      have hsg : Srt (x :: g0) := by
        have : Srt ((x :: g0) ++ rest) := by simpa using hs
        exact (List.pairwise_append.1 this).1
      have hsr : Srt rest := by
        have : Srt ((x :: g0) ++ rest) := by simpa using hs
        exact (List.pairwise_append.1 this).2.1
      have hg' : ∀ y ∈ x :: g0, p ++ [c] <+: y.name := by
        intro y hy
        rcases List.mem_cons.1 hy with rfl | h
        · exact hcx
        · exact hg y h
      obtain ⟨q, hq⟩ : ∃ q, q = shareL x.name ((x :: g0).getLast (by simp)).name := ⟨_, rfl⟩
      have hcq : p ++ [c] <+: q := by rw [hq, share_iff]; exact ⟨hcx, hg' _ (List.getLast_mem _)⟩
      have hqx : q <+: x.name := by rw [hq]; exact share_left _ _
      have hql : q <+: ((x :: g0).getLast (by simp)).name := by rw [hq]; exact share_right _ _
      have hin : ∀ y ∈ x :: g0, q <+: y.name := fun y hy => between hqx hql (first_le hsg y hy) (last_le hsg y hy)
      have hpq : p.length < q.length := by have := hcq.length_le; simp at this; omega
      obtain ⟨F, hF⟩ := ih p rest (by
        have e : weigh p (x :: (g0 ++ rest)) = weigh p (x :: g0) + weigh p rest := by rw [← List.cons_append, weigh_app]
        have := weigh_pos (g := g0) (ho x (by simp)).2
        omega) hsr (fun z hz => ho z (by simp [hz]))
      have ew : weigh p (x :: (g0 ++ rest)) = weigh p (x :: g0) + weigh p rest := by rw [← List.cons_append, weigh_app]
      by_cases hx : x.name = q
      · have hK0 : weigh q g0 ≤ m := by
          have h1 := weigh_mono (Nat.le_of_lt hpq) g0
          have h2 : weigh p (x :: g0) = (x.name.length - p.length) + weigh p g0 := by simp [weigh]
          have h3 := (ho x (by simp)).2
          omega
        obtain ⟨K, hK⟩ := ih q g0 hK0 (List.pairwise_cons.1 hsg).2 (fun y hy => ⟨hin y (by simp [hy]), by
          have h1 := (List.pairwise_cons.1 hsg).1 y hy
          have h2 := hin y (by simp [hy])
          rcases Nat.lt_or_ge q.length y.name.length with h | h
          · exact h
          · have := prefix_eq h2 h
            rw [hx, this, ltStr_irr] at h1; cases h1⟩)
        exact ⟨_, .cons p q c x g0 rest g0 (some x) K F hcq hin hq hr (.inl ⟨rfl, hx, rfl⟩) hK hF⟩
      · have hxl : q.length < x.name.length := by
          rcases Nat.lt_or_ge q.length x.name.length with h | h
          · exact h
          · exact absurd (prefix_eq hqx h).symm hx
        have hlong : ∀ y ∈ x :: g0, q.length < y.name.length := by
          intro y hy
          rcases Nat.lt_or_ge q.length y.name.length with h | h
          · exact h
          · have e := prefix_eq (hin y hy) h
            have h1 := first_le hsg y hy
            rw [← e, lt_of_prefix hqx hxl] at h1; cases h1
        have hK0 : weigh q (x :: g0) ≤ m := by
          have h2 : weigh p (x :: g0) = (x.name.length - p.length) + weigh p g0 := by simp [weigh]
          have h3 : weigh q (x :: g0) = (x.name.length - q.length) + weigh q g0 := by simp [weigh]
          have h1 := weigh_mono (Nat.le_of_lt hpq) g0
          omega
        obtain ⟨K, hK⟩ := ih q (x :: g0) hK0 hsg (fun y hy => ⟨hin y hy, hlong y hy⟩)
        refine ⟨_, .cons p q c x g0 rest (x :: g0) none K F hcq hin hq hr (.inr ⟨rfl, hxl, rfl, ?_⟩) hK hF⟩
        -- the first one and the last one part there
        generalize hL : x :: g0 = L at hK
        cases hK with
        | nil => cases hL
        | cons _ q2 c2 x2 g2 r2 g3 s2 K2 F2 hc2 hin2 hq2 hout2 hs2 hK2 hF2 =>
          have hr2 : r2 ≠ [] := by
            intro e
            subst e
            rw [List.append_nil] at hL
            injection hL with e1 e2
            subst e1; subst e2
            have h1 : q2 <+: q := by rw [hq, ← hq2]; exact List.prefix_rfl
            have h2 := hc2.length_le
            have h3 := h1.length_le
            simp at h2; omega
          show 2 ≤ 1 + F2.roots
          have := hF2.roots_pos hr2
          omega
theorem tied_of {p : List UInt8} {l : List Exp} (hs : Srt l) (ho : Onto p l) : ∃ F, Tied p l F := tied_any _ p l (Nat.le_refl _) hs ho
/-! ### what a forest has -/
theorem Tied.exps {p : List UInt8} {l : List Exp} {F : Fo} (h : Tied p l F) : F.exps = l := by
  induction h with
  | nil => rfl
  | cons p q c x g0 rest g1 says K F hc hin hq hout hs hK hF ihK ihF =>
    rw [Fo.exps, ihK, ihF]
    rcases hs with ⟨rfl, -, rfl⟩ | ⟨rfl, -, rfl, -⟩ <;> rfl
theorem Tied.many {p : List UInt8} {l : List Exp} {F : Fo} (h : Tied p l F) : F.size + F.roots ≤ 2 * l.length := by
  induction h with
  | nil => exact Nat.le_refl _
  | cons p q c x g0 rest g1 says K F hc hin hq hout hs hK hF ihK ihF =>
    rw [Fo.size, Fo.roots]
    simp only [List.length_append, List.length_cons] at ihK ihF ⊢
    rcases hs with ⟨rfl, -, rfl⟩ | ⟨rfl, -, rfl, h2⟩
    · omega
    · simp only [List.length_cons] at ihK; omega
theorem tied_pq {p q : List UInt8} {c : UInt8} (hc : p ++ [c] <+: q) : p <+: q ∧ p.length < q.length ∧ p ++ q.drop p.length = q := by
  have h1 : p <+: q := (List.prefix_append p [c]).trans hc
  refine ⟨h1, by have := hc.length_le; simp at this; omega, ?_⟩
  obtain ⟨t, rfl⟩ := h1
  simp
/-- Each name is what some name begins with. -/
theorem Tied.pre {p : List UInt8} {l : List Exp} {F : Fo} (h : Tied p l F) : ∀ x ∈ F.names p, p <+: x ∧ p.length < x.length ∧ ∃ y ∈ l, x <+: y.name := by
  induction h with
  | nil => intro x hx; simp [Fo.names] at hx
  | cons p q c x g0 rest g1 says K F hc hin hq hout hs hK hF ihK ihF =>
    obtain ⟨h1, h2, h3⟩ := tied_pq hc
    intro z hz
    rw [Fo.names, h3] at hz
    rcases List.mem_cons.1 hz with rfl | hz
    · exact ⟨h1, h2, x, by simp, hin x (by simp)⟩
    · rcases List.mem_append.1 hz with hz | hz
      · obtain ⟨a1, a2, y, hy, a3⟩ := ihK z hz
        refine ⟨h1.trans a1, by omega, y, ?_, a3⟩
        rcases hs with ⟨rfl, -, rfl⟩ | ⟨rfl, -, rfl, -⟩
        · exact List.mem_append_left _ (List.mem_cons_of_mem _ hy)
        · exact List.mem_append_left _ hy
      · obtain ⟨a1, a2, y, hy, a3⟩ := ihF z hz
        exact ⟨a1, a2, y, List.mem_append_right _ hy, a3⟩
/-- Edges are not empty; what is said is said of the node's name; nodes side by side begin differently. -/
def Fo.Ok : Fo → List UInt8 → Prop
  | .nil, _ => True
  | .cons e s k n, p => e ≠ [] ∧ (∀ x, s = some x → x.name = p ++ e) ∧ (∀ e' ∈ n.edges, e'.head? ≠ e.head?) ∧ k.Ok (p ++ e) ∧ n.Ok p
theorem Fo.edges_names : ∀ (F : Fo) (p e : List UInt8), e ∈ F.edges → p ++ e ∈ F.names p
  | .nil, _, _, h => by simp [Fo.edges] at h
  | .cons e0 s k n, p, e, h => by
    rw [Fo.edges] at h
    rw [Fo.names]
    rcases List.mem_cons.1 h with rfl | h
    · simp
    · exact List.mem_cons_of_mem _ (List.mem_append_right _ (Fo.edges_names n p e h))
theorem head_of_snoc {p e : List UInt8} {c : UInt8} (h : p ++ [c] <+: p ++ e) : e.head? = some c := by
  rw [List.prefix_append_right_inj] at h
  obtain ⟨t, rfl⟩ := h
  rfl
theorem Tied.ok {p : List UInt8} {l : List Exp} {F : Fo} (h : Tied p l F) : F.Ok p := by
  induction h with
  | nil => trivial
  | cons p q c x g0 rest g1 says K F hc hin hq hout hs hK hF ihK ihF =>
    obtain ⟨h1, h2, h3⟩ := tied_pq hc
    refine ⟨?_, fun z hz => ?_, fun e' he' => ?_, ?_, ihF⟩
    · intro e; rw [List.drop_eq_nil_iff] at e; omega
    · rw [h3]
      rcases hs with ⟨rfl, h4, rfl⟩ | ⟨rfl, -, rfl, -⟩
      · cases hz; exact h4
      · cases hz
    · obtain ⟨a1, a2, y, hy, a3⟩ := hF.pre _ (Fo.edges_names F p e' he')
      obtain ⟨d, hd, hlt⟩ := hout y hy
      have e1 : (q.drop p.length).head? = some c := head_of_snoc (p := p) (by rw [h3]; exact hc)
      have hd2 : p ++ [d] <+: p ++ e' := prefix_both hd a3 (by simp at a2 ⊢; omega)
      rw [head_of_snoc hd2, e1]
      intro e
      cases e
      exact absurd hlt (by simp)
    · rw [h3]; exact ihK
/-- Names rise. -/
theorem Tied.rises {p : List UInt8} {l : List Exp} {F : Fo} (h : Tied p l F) : (F.names p).Pairwise (fun a b => ltStr a b = true) := by
  induction h with
  | nil => exact List.Pairwise.nil
  | cons p q c x g0 rest g1 says K F hc hin hq hout hs hK hF ihK ihF =>
    obtain ⟨h1, h2, h3⟩ := tied_pq hc
    have hF' : ∀ z ∈ F.names p, ∃ d, p ++ [d] <+: z ∧ c < d := by
      intro z hz
      obtain ⟨a1, a2, y, hy, a3⟩ := hF.pre z hz
      obtain ⟨d, hd, hlt⟩ := hout y hy
      exact ⟨d, prefix_both hd a3 (by simp; omega), hlt⟩
    rw [Fo.names, h3, List.pairwise_cons]
    refine ⟨fun z hz => ?_, List.pairwise_append.2 ⟨ihK, ihF, fun a ha b hb => ?_⟩⟩
    · rcases List.mem_append.1 hz with hz | hz
      · obtain ⟨a1, a2, -⟩ := hK.pre z hz
        exact lt_of_prefix a1 a2
      · obtain ⟨d, hd, hlt⟩ := hF' z hz
        exact lt_of_part hc hd hlt
    · obtain ⟨a1, -, -⟩ := hK.pre a ha
      obtain ⟨d, hd, hlt⟩ := hF' b hb
      exact lt_of_part (hc.trans a1) hd hlt
/-! ### what names that stand side by side share -/
def sharesL : List Exp → List (List UInt8)
  | x :: y :: l => shareL x.name y.name :: sharesL (y :: l)
  | _ => []
theorem shares_app (x : Exp) : ∀ (g : List Exp) (y : Exp) (r : List Exp), sharesL (x :: g ++ y :: r) = sharesL (x :: g) ++ shareL ((x :: g).getLast (by simp)).name y.name :: sharesL (y :: r) := by
  intro g
  induction g generalizing x with
  | nil => intro y r; rfl
  | cons z g ih =>
    intro y r
    show shareL x.name z.name :: sharesL (z :: g ++ y :: r) = shareL x.name z.name :: sharesL (z :: g) ++ _
    rw [ih z y r]
    simp
/-- Where the first one and the last one part, two neighbours part. -/
theorem share_min {q : List UInt8} : ∀ (g : List Exp) (x : Exp), (∀ y ∈ x :: g, q <+: y.name) → q = shareL x.name ((x :: g).getLast (by simp)).name → q.length < x.name.length → q ∈ sharesL (x :: g)
  | [], x, hin, hq, hx => by
    have h1 : x.name <+: q := by rw [hq, share_iff]; exact ⟨List.prefix_rfl, List.prefix_rfl⟩
    have := h1.length_le
    omega
  | y :: g, x, hin, hq, hx => by
    show q ∈ shareL x.name y.name :: sharesL (y :: g)
    have hqs : q <+: shareL x.name y.name := (share_iff _ _ _).2 ⟨hin x (by simp), hin y (by simp)⟩
    by_cases h : shareL x.name y.name = q
    · rw [h]; simp
    · have hl : q.length < (shareL x.name y.name).length := by
        rcases Nat.lt_or_ge q.length (shareL x.name y.name).length with h' | h'
        · exact h'
        · exact absurd (prefix_eq hqs h').symm h
      obtain ⟨u, hu⟩ := prefix_more hqs hl
      obtain ⟨hux, huy⟩ := (share_iff _ _ _).1 hu
      refine List.mem_cons_of_mem _ (share_min g y (fun z hz => hin z (List.mem_cons_of_mem _ hz)) ?_ ?_)
      · have hlast : ((x :: y :: g).getLast (by simp)) = ((y :: g).getLast (by simp)) := by simp
        rw [hlast] at hq
        have h1 : q <+: shareL y.name ((y :: g).getLast (by simp)).name := (share_iff _ _ _).2 ⟨hin y (by simp), by rw [hq]; exact share_right _ _⟩
        rcases Nat.lt_or_ge q.length (shareL y.name ((y :: g).getLast (by simp)).name).length with h' | h'
        · obtain ⟨v, hv⟩ := prefix_more h1 h'
          obtain ⟨hvy, hvl⟩ := (share_iff _ _ _).1 hv
          have e := snoc_inj hvy huy
          subst e
          have := ((share_iff x.name ((y :: g).getLast (by simp)).name (q ++ [v])).2 ⟨hux, hvl⟩).length_le
          rw [← hq] at this
          simp at this
          omega
        · exact prefix_eq h1 h'
      · have := huy.length_le
        simp at this; omega
theorem mem_shares_prefix {q : List UInt8} : ∀ (g : List Exp), (∀ y ∈ g, q <+: y.name) → ∀ s ∈ sharesL g, q <+: s
  | [], _, s, h => by simp [sharesL] at h
  | [x], _, s, h => by simp [sharesL] at h
  | x :: y :: g, hin, s, h => by
    rcases List.mem_cons.1 h with rfl | h
    · exact (share_iff _ _ _).2 ⟨hin x (by simp), hin y (by simp)⟩
    · exact mem_shares_prefix (y :: g) (fun z hz => hin z (List.mem_cons_of_mem _ hz)) s h
/-- The nodes' names: the exports' names, and what neighbours share. -/
theorem Tied.names_iff {p : List UInt8} {l : List Exp} {F : Fo} (h : Tied p l F) : ∀ z, z ∈ F.names p ↔ (∃ y ∈ l, y.name = z) ∨ (z ∈ sharesL l ∧ p.length < z.length) := by
  induction h with
  | nil => intro z; simp [Fo.names, sharesL]
  | cons p q c x g0 rest g1 says K F hc hin hq hout hs hK hF ihK ihF =>
    obtain ⟨h1, h2, h3⟩ := tied_pq hc
    have hcross : ∀ s, s ∈ sharesL (x :: g0 ++ rest) → p.length < s.length → s ∈ sharesL (x :: g0) ∨ s ∈ sharesL rest := by
      intro s hm hl
      cases rest with
      | nil => rw [List.append_nil] at hm; exact .inl hm
      | cons y r =>
        rw [shares_app] at hm
        rcases List.mem_append.1 hm with hm | hm
        · exact .inl hm
        · rcases List.mem_cons.1 hm with rfl | hm
          · exfalso
            obtain ⟨d, hd, hlt⟩ := hout y (by simp)
            have hcl : p ++ [c] <+: ((x :: g0).getLast (by simp)).name := hc.trans (hin _ (List.getLast_mem _))
            have a1 : p ++ [c] <+: shareL ((x :: g0).getLast (by simp)).name y.name := prefix_both hcl (share_left _ _) (by simp; omega)
            have a2 := snoc_inj (a1.trans (share_right _ _)) hd
            subst a2
            exact absurd hlt (by simp)
          · exact .inr hm
    have hback1 : ∀ s, s ∈ sharesL (x :: g0) → s ∈ sharesL (x :: g0 ++ rest) := by
      intro s hm
      cases rest with
      | nil => rw [List.append_nil]; exact hm
      | cons y r => rw [shares_app]; exact List.mem_append_left _ hm
    have hback2 : ∀ s, s ∈ sharesL rest → s ∈ sharesL (x :: g0 ++ rest) := by
      intro s hm
      cases rest with
      | nil => simp [sharesL] at hm
      | cons y r => rw [shares_app]; exact List.mem_append_right _ (List.mem_cons_of_mem _ hm)
    intro z
    rw [Fo.names, h3, List.mem_cons, List.mem_append, ihK z, ihF z]
    constructor
    · rintro (rfl | (⟨y, hy, rfl⟩ | ⟨hm, hl⟩) | (⟨y, hy, rfl⟩ | ⟨hm, hl⟩))
      · rcases hs with ⟨-, h4, -⟩ | ⟨-, h4, -, -⟩
        · exact .inl ⟨x, by simp, h4⟩
        · exact .inr ⟨hback1 _ (share_min g0 x hin hq h4), h2⟩
      · refine .inl ⟨y, ?_, rfl⟩
        rcases hs with ⟨rfl, -, rfl⟩ | ⟨rfl, -, rfl, -⟩
        · exact List.mem_append_left _ (List.mem_cons_of_mem _ hy)
        · exact List.mem_append_left _ hy
      · refine .inr ⟨?_, by omega⟩
        rcases hs with ⟨-, -, rfl⟩ | ⟨-, -, rfl, -⟩
        · refine hback1 _ ?_
          cases g1 with
          | nil => simp [sharesL] at hm
          | cons y g => exact List.mem_cons_of_mem _ hm
        · exact hback1 _ hm
      · exact .inl ⟨y, List.mem_append_right _ hy, rfl⟩
      · exact .inr ⟨hback2 _ hm, hl⟩
    · rintro (⟨y, hy, rfl⟩ | ⟨hm, hl⟩)
      · rcases List.mem_append.1 hy with hy | hy
        · rcases hs with ⟨-, h4, rfl⟩ | ⟨-, -, rfl, -⟩
          · rcases List.mem_cons.1 hy with rfl | hy
            · exact .inl h4
            · exact .inr (.inl (.inl ⟨y, hy, rfl⟩))
          · exact .inr (.inl (.inl ⟨y, hy, rfl⟩))
        · exact .inr (.inr (.inl ⟨y, hy, rfl⟩))
      · rcases hcross z hm hl with hm | hm
        · have hqz := mem_shares_prefix (x :: g0) hin z hm
          rcases Nat.lt_or_ge q.length z.length with hlz | hlz
          · refine .inr (.inl (.inr ⟨?_, hlz⟩))
            rcases hs with ⟨-, h4, rfl⟩ | ⟨-, -, rfl, -⟩
            · cases g1 with
              | nil => simp [sharesL] at hm
              | cons y g =>
                rcases List.mem_cons.1 hm with rfl | hm
                · exfalso
                  have h5 := (share_left x.name y.name).length_le
                  have h6 : x.name.length = q.length := by rw [h4]
                  omega
                · exact hm
            · exact hm
          · exact .inl (prefix_eq hqz hlz).symm
        · exact .inr (.inr (.inr ⟨hm, hl⟩))
end Go.Proofs.YthhjdkcnkdffcaaGreat

namespace Go.Proofs.YthhjdkcnkdffcaaGreat
set_option linter.unusedSimpArgs false
set_option linter.unusedVariables false
open Go.Sort
/-- As the reference sorts: the halves, merged. -/
def sortedR : Nat → List Exp → List Exp
  | 0, l => l
  | f + 1, l => if l.length < 2 then l else List.merge (sortedR f (l.take (l.length / 2))) (sortedR f (l.drop (l.length / 2))) nameLe
theorem sortedR_perm : ∀ (f : Nat) (l : List Exp), (sortedR f l).Perm l
  | 0, l => List.Perm.refl _
  | f + 1, l => by
    rw [sortedR]
    split
    · exact List.Perm.refl _
    · refine (List.merge_perm_append _).trans ?_
      refine ((sortedR_perm f _).append (sortedR_perm f _)).trans ?_
      rw [List.take_append_drop]
theorem sortedR_sorted : ∀ (f : Nat) (l : List Exp), l.length ≤ f + 1 → (sortedR f l).Pairwise (fun a b => nameLe a b = true)
  | 0, l, h => by
    rw [sortedR]
    match l, h with
    | [], _ => exact List.Pairwise.nil
    | [x], _ => simp
  | f + 1, l, h => by
    rw [sortedR]
    split
    · rename_i h2
      match l, h2 with
      | [], _ => exact List.Pairwise.nil
      | [x], _ => simp
    · exact List.pairwise_merge nameLe_trans nameLe_total _ _ (sortedR_sorted f _ (by rw [List.length_take]; omega)) (sortedR_sorted f _ (by rw [List.length_drop]; omega))
theorem sortedR_is {f : Nat} {l : List Exp} (h : NamesApart l) (hf : l.length ≤ f + 1) : sortedR f l = byNames l :=
  byNames_unique h (sortedR_perm f l) (sortedR_sorted f l hf)
end Go.Proofs.YthhjdkcnkdffcaaGreat

namespace Go.Proofs.YthhjdkcnkdffcaaGreat
set_option linter.unusedSimpArgs false
set_option linter.unusedVariables false
open Go.Sort
/-- A knot: what is said there; its children: edges, numbers. -/
structure Knot where
  says : Option Exp
  kids : List (List UInt8 × Nat)
def Fo.refs : Fo → Nat → List (List UInt8 × Nat)
  | .nil, _ => []
  | .cons e _ k n, i => (e, i) :: n.refs (i + 1 + k.size)
def Fo.knots : Fo → Nat → List Knot
  | .nil, _ => []
  | .cons _ s k n, i => ⟨s, k.refs (i + 1)⟩ :: (k.knots (i + 1) ++ n.knots (i + 1 + k.size))
theorem Fo.knots_len : ∀ (F : Fo) (i : Nat), (F.knots i).length = F.size
  | .nil, _ => rfl
  | .cons e s k n, i => by simp only [Fo.knots, Fo.size, List.length_cons, List.length_append, Fo.knots_len k, Fo.knots_len n]; omega
theorem Fo.refs_len : ∀ (F : Fo) (i : Nat), (F.refs i).length = F.roots
  | .nil, _ => rfl
  | .cons e s k n, i => by simp only [Fo.refs, Fo.roots, List.length_cons, Fo.refs_len n]; omega
theorem Fo.refs_bound : ∀ (F : Fo) (i : Nat), ∀ r ∈ F.refs i, i ≤ r.2 ∧ r.2 < i + F.size ∧ r.1 ∈ F.edges
  | .nil, _, r, h => by simp [Fo.refs] at h
  | .cons e s k n, i, r, h => by
    rw [Fo.refs] at h
    rw [Fo.size, Fo.edges]
    rcases List.mem_cons.1 h with rfl | h
    · exact ⟨Nat.le_refl _, by show i < _; omega, by simp⟩
    · obtain ⟨h1, h2, h3⟩ := Fo.refs_bound n _ r h
      exact ⟨by omega, by omega, List.mem_cons_of_mem _ h3⟩
/-- All knots of a trie: the root, and the forest beneath it. -/
def allK (F : Fo) : List Knot := ⟨none, F.refs 1⟩ :: F.knots 1
def allN (F : Fo) : List (List UInt8) := [] :: F.names []
theorem allK_len (F : Fo) : (allK F).length = F.size + 1 := by simp [allK, Fo.knots_len]
theorem allN_len (F : Fo) : (allN F).length = F.size + 1 := by simp [allN, Fo.names_len]
/-! ### the reference's names of nodes -/
/-- Each one that is not as the one ahead. -/
def dedupN : List (List UInt8) → List (List UInt8)
  | x :: y :: l => if y = x then dedupN (y :: l) else x :: dedupN (y :: l)
  | l => l
theorem dedup_mem : ∀ (l : List (List UInt8)) (x : List UInt8), x ∈ dedupN l ↔ x ∈ l
  | [], x => Iff.rfl
  | [y], x => Iff.rfl
  | y :: z :: l, x => by
    rw [dedupN]
    have ih := dedup_mem (z :: l) x
    split
    · rename_i e
      subst e
      rw [ih]; simp
    · rw [List.mem_cons, ih, List.mem_cons (a := x) (b := y)]
theorem dedup_rises : ∀ (l : List (List UInt8)), l.Pairwise (fun a b => ltStr b a = false) → (dedupN l).Pairwise (fun a b => ltStr a b = true)
  | [], _ => List.Pairwise.nil
  | [y], _ => by simp [dedupN]
  | y :: z :: l, h => by
    have hp := List.pairwise_cons.1 h
    have ih := dedup_rises (z :: l) hp.2
    rw [dedupN]
    split
    · exact ih
    · rename_i hne
      refine List.pairwise_cons.2 ⟨fun w hw => ?_, ih⟩
      have hw' := (dedup_mem (z :: l) w).1 hw
      have h1 : ltStr y z = true := by
        cases h2 : ltStr y z with
        | true => rfl
        | false => exact absurd (ltStr_anti (hp.1 z (by simp)) h2) hne
      rcases List.mem_cons.1 hw' with rfl | hw'
      · exact h1
      · have h3 := (List.pairwise_cons.1 hp.2).1 w hw'
        cases h2 : ltStr z w with
        | true => exact ltStr_trans h1 h2
        | false => rw [ltStr_anti h3 h2] at *; exact h1
def nameX (n : List UInt8) : Exp := { Exp.zero with name := n }
/-- As the reference has it: some list S with the same names in it, sorted, each one once. -/
theorem names_are {l : List Exp} {F : Fo} (h : Tied [] l F) (S T : List (List UInt8)) (hS : ∀ z, z ∈ S ↔ z = [] ∨ (∃ y ∈ l, y.name = z) ∨ z ∈ sharesL l) (hp : T.Perm S) (hT : T.Pairwise (fun a b => ltStr b a = false)) : dedupN T = allN F := by
  refine rising_eq (dedup_rises T hT) ?_ (fun z => ?_)
  · unfold allN
    refine List.pairwise_cons.2 ⟨fun z hz => ?_, h.rises⟩
    have := (h.pre z hz).2.1
    exact (ltStr_nil z).2 (by intro e; subst e; simp at this)
  · rw [dedup_mem, hp.mem_iff, hS, allN, List.mem_cons, h.names_iff z]
    constructor
    · rintro (h1 | h1 | h1)
      · exact .inl h1
      · exact .inr (.inl h1)
      · cases z with
        | nil => exact .inl rfl
        | cons c z => exact .inr (.inr ⟨h1, by simp⟩)
    · rintro (h1 | h1 | ⟨h1, -⟩)
      · exact .inl h1
      · exact .inr (.inl h1)
      · exact .inr (.inr h1)
/-! ### what is said at each node, in the reference's manner -/
def sayIt : List (List UInt8) → List Exp → List (Option Exp) × List Exp
  | [], l => ([], l)
  | n :: ns, [] => (none :: (sayIt ns []).1, (sayIt ns []).2)
  | n :: ns, x :: l => if x.name = n then (some x :: (sayIt ns l).1, (sayIt ns l).2) else (none :: (sayIt ns (x :: l)).1, (sayIt ns (x :: l)).2)
theorem sayIt_app : ∀ (a b : List (List UInt8)) (l : List Exp), sayIt (a ++ b) l = ((sayIt a l).1 ++ (sayIt b (sayIt a l).2).1, (sayIt b (sayIt a l).2).2)
  | [], b, l => rfl
  | n :: a, b, [] => by
    show sayIt (n :: (a ++ b)) [] = _
    rw [sayIt, sayIt, sayIt_app a b []]; rfl
  | n :: a, b, x :: l => by
    show sayIt (n :: (a ++ b)) (x :: l) = _
    rw [sayIt, sayIt]
    split
    · rw [sayIt_app a b l]; rfl
    · rw [sayIt_app a b (x :: l)]; rfl
theorem Tied.saying {p : List UInt8} {l : List Exp} {F : Fo} (h : Tied p l F) : ∀ (r : List Exp) (i : Nat), sayIt (F.names p) (l ++ r) = ((F.knots i).map Knot.says, r) := by
  induction h with
  | nil => intro r i; rfl
  | cons p q c x g0 rest g1 says K F hc hin hq hout hs hK hF ihK ihF =>
    intro r i
    obtain ⟨h1, h2, h3⟩ := tied_pq hc
    rw [Fo.names, h3, Fo.knots]
    rcases hs with ⟨rfl, h4, rfl⟩ | ⟨rfl, h4, rfl, -⟩
    · show sayIt (q :: _) (x :: (g1 ++ rest ++ r)) = _
      rw [sayIt, if_pos h4, sayIt_app, List.append_assoc, ihK (rest ++ r) (i + 1)]
      dsimp only
      rw [ihF r (i + 1 + K.size)]
      simp
    · show sayIt (q :: _) (x :: (g0 ++ rest ++ r)) = _
      have hne : ¬ x.name = q := fun e => by rw [e] at h4; omega
      rw [sayIt, if_neg hne, sayIt_app]
      have e : x :: (g0 ++ rest ++ r) = (x :: g0) ++ (rest ++ r) := by simp
      rw [e, ihK (rest ++ r) (i + 1)]
      dsimp only
      rw [ihF r (i + 1 + K.size)]
      simp
theorem saying_all {l : List Exp} {F : Fo} (h : Tied [] l F) (hne : ∀ y ∈ l, y.name ≠ []) : (sayIt (allN F) l).1 = (allK F).map Knot.says := by
  have h1 := h.saying [] 1
  rw [List.append_nil] at h1
  unfold allN allK
  cases l with
  | nil => rw [sayIt, h1]; rfl
  | cons x l => rw [sayIt, if_neg (hne x (by simp)), h1]; rfl
/-! ### the children of each node, in the reference's manner -/
def popK (N : Nat → List UInt8) (i : Nat) (st : List Nat) : List Nat := st.dropWhile (fun j => !(N j).isPrefixOf (N i))
def hangK (i : Nat) (kf : Nat → List Nat) : List Nat → Nat → List Nat
  | [] => kf
  | u :: _ => fun j => if j = u then kf u ++ [i] else kf j
/-- One node: those ahead that its name does not begin with are closed; the nearest one that is open has it. -/
def stepK (N : Nat → List UInt8) (s : List Nat × (Nat → List Nat)) (i : Nat) : List Nat × (Nat → List Nat) := (i :: popK N i s.1, hangK i s.2 (popK N i s.1))
theorem popK_to {N : Nat → List UInt8} {i u : Nat} {rest : List Nat} (hu : N u <+: N i) : ∀ ex : List Nat, (∀ j ∈ ex, ¬ N j <+: N i) → popK N i (ex ++ u :: rest) = u :: rest
  | [], _ => by
    unfold popK
    rw [List.nil_append, List.dropWhile_cons_of_neg]
    simpa using List.isPrefixOf_iff_prefix.2 hu
  | j :: ex, h => by
    have hj := h j (by simp)
    have ih := popK_to (rest := rest) hu ex (fun k hk => h k (by simp [hk]))
    unfold popK at ih ⊢
    rw [List.cons_append, List.dropWhile_cons_of_pos, ih]
    cases e : (N j).isPrefixOf (N i) with
    | false => rfl
    | true => exact absurd (List.isPrefixOf_iff_prefix.1 e) hj
/-- A forest's nodes, gone over behind its parent. -/
theorem runK_forest (N : Nat → List UInt8) : ∀ (F : Fo) (p : List UInt8) (at_ u : Nat) (ex rest : List Nat) (kf : Nat → List Nat),
    F.Ok p → N u = p → u < at_ → (∀ j, j < F.size → N (at_ + j) = (F.names p).getD j []) → (∀ j ∈ ex, ∀ e ∈ F.edges, ¬ N j <+: p ++ e) → (∀ j, at_ ≤ j → kf j = []) →
    ∃ ex' kf', (List.range' at_ F.size).foldl (stepK N) (ex ++ u :: rest, kf) = (ex' ++ u :: rest, kf') ∧ (∀ j ∈ ex', j ∈ ex ∨ ∃ e ∈ F.edges, p ++ e <+: N j) ∧
      kf' u = kf u ++ (F.refs at_).map Prod.snd ∧ (∀ j, j < F.size → kf' (at_ + j) = (((F.knots at_).map (fun k => k.kids.map Prod.snd)).getD j [])) ∧ (∀ j, j ≠ u → (j < at_ ∨ at_ + F.size ≤ j) → kf' j = kf j)
  | .nil, p, at_, u, ex, rest, kf, _, _, _, _, _, _ => by
    refine ⟨ex, kf, rfl, fun j hj => .inl hj, by simp [Fo.refs], fun j hj => absurd hj (Nat.not_lt_zero _), fun j _ _ => rfl⟩
  | .cons e s K n, p, at_, u, ex, rest, kf, hok, hu, hlt, hN, hex, hkf => by
    obtain ⟨he, hs, hap, hK, hn⟩ := hok
    have hN0 : N at_ = p ++ e := by
      have := hN 0 (by rw [Fo.size]; omega)
      simpa [Fo.names] using this
    have hNK : ∀ j, j < K.size → N (at_ + 1 + j) = (K.names (p ++ e)).getD j [] := by
      intro j hj
      have := hN (j + 1) (by rw [Fo.size]; omega)
      rw [show at_ + (j + 1) = at_ + 1 + j by omega, Fo.names, List.getD_cons_succ] at this
      rw [this, List.getD_eq_getElem?_getD, List.getElem?_append_left (by rw [Fo.names_len]; exact hj), ← List.getD_eq_getElem?_getD]
    have hNn : ∀ j, j < n.size → N (at_ + 1 + K.size + j) = (n.names p).getD j [] := by
      intro j hj
      have := hN (K.size + j + 1) (by rw [Fo.size]; omega)
      rw [show at_ + (K.size + j + 1) = at_ + 1 + K.size + j by omega, Fo.names, List.getD_cons_succ] at this
      rw [this, List.getD_eq_getElem?_getD, List.getElem?_append_right (by rw [Fo.names_len]; omega), Fo.names_len, ← List.getD_eq_getElem?_getD]
      congr 1; omega
    have hpop : popK N at_ (ex ++ u :: rest) = u :: rest := popK_to (by rw [hu, hN0]; exact List.prefix_append _ _) ex (fun j hj => by rw [hN0]; exact hex j hj e (by simp [Fo.edges]))
    have hstep : stepK N (ex ++ u :: rest, kf) at_ = (at_ :: u :: rest, hangK at_ kf (u :: rest)) := by
      unfold stepK; dsimp only; rw [hpop]
    obtain ⟨exK, kf1, hK1, hK2, hK3, hK4, hK5⟩ := runK_forest N K (p ++ e) (at_ + 1) at_ [] (u :: rest) (hangK at_ kf (u :: rest)) hK hN0 (by omega) hNK (by simp) (fun j hj => by
      show (if j = u then _ else kf j) = []
      rw [if_neg (by omega)]; exact hkf j (by omega))
    have hg1 : hangK at_ kf (u :: rest) u = kf u ++ [at_] := by show (if u = u then _ else _) = _; rw [if_pos rfl]
    have hg2 : ∀ j, j ≠ u → hangK at_ kf (u :: rest) j = kf j := fun j hj => by show (if j = u then _ else _) = _; rw [if_neg hj]
    obtain ⟨ex', kf', hn1, hn2, hn3, hn4, hn5⟩ := runK_forest N n p (at_ + 1 + K.size) u (exK ++ [at_]) rest kf1 hn hu (by omega) hNn (fun j hj e' he' hpre => by
      have hsame : p ++ e <+: N j := by
        rcases List.mem_append.1 hj with h1 | h1
        · rcases hK2 j h1 with h2 | ⟨e2, -, h2⟩
          · cases h2
          · exact (List.prefix_append _ _).trans h2
        · simp at h1; rw [h1, hN0]; exact List.prefix_rfl
      have hpp := (List.prefix_append_right_inj p).1 (hsame.trans hpre)
      have := hap e' he'
      cases e with
      | nil => exact he rfl
      | cons c e =>
        obtain ⟨t, rfl⟩ := hpp
        exact this rfl) (fun j hj => by rw [hK5 j (by omega) (by omega), hg2 j (by omega)]; exact hkf j (by omega))
    refine ⟨ex', kf', ?_, fun j hj => ?_, ?_, fun j hj => ?_, fun j hj hjr => ?_⟩
    · rw [Fo.size, show 1 + K.size + n.size = (K.size + n.size) + 1 by omega, List.range'_succ, List.foldl_cons, hstep, ← List.range'_append_1, List.foldl_append]
      have e1 : (at_ :: u :: rest, hangK at_ kf (u :: rest)) = (([] : List Nat) ++ at_ :: (u :: rest), hangK at_ kf (u :: rest)) := rfl
      rw [e1, hK1]
      have e2 : (exK ++ at_ :: u :: rest, kf1) = ((exK ++ [at_]) ++ u :: rest, kf1) := by simp
      rw [e2, hn1]
    · right
      rcases hn2 j hj with h1 | ⟨e', h1, h2⟩
      · rcases List.mem_append.1 h1 with h3 | h3
        · rcases hK2 j h3 with h4 | ⟨e2, -, h4⟩
          · cases h4
          · exact ⟨e, by simp [Fo.edges], (List.prefix_append _ _).trans h4⟩
        · simp at h3; rw [h3, hN0]; exact ⟨e, by simp [Fo.edges], List.prefix_rfl⟩
      · exact ⟨e', by simp [Fo.edges, h1], h2⟩
    · rw [hn3, hK5 u (by omega) (by omega), hg1, Fo.refs, List.map_cons, List.append_assoc]; rfl
    · rw [Fo.size] at hj
      rw [Fo.knots, List.map_cons, List.map_append]
      rcases Nat.eq_zero_or_pos j with h0 | h0
      · subst h0
        rw [Nat.add_zero, hn5 at_ (by omega) (by omega), hK3, hg2 at_ (by omega), hkf at_ (Nat.le_refl _), List.nil_append]
        rfl
      · obtain ⟨j, rfl⟩ : ∃ k, j = k + 1 := ⟨j - 1, by omega⟩
        rw [List.getD_cons_succ, List.getD_eq_getElem?_getD]
        by_cases hjk : j < K.size
        · rw [show at_ + (j + 1) = at_ + 1 + j by omega, hn5 _ (by omega) (by omega), hK4 j hjk, List.getElem?_append_left (by rw [List.length_map, Fo.knots_len]; exact hjk), ← List.getD_eq_getElem?_getD]
        · rw [show at_ + (j + 1) = at_ + 1 + K.size + (j - K.size) by omega, hn4 (j - K.size) (by omega), List.getElem?_append_right (by rw [List.length_map, Fo.knots_len]; omega), List.length_map, Fo.knots_len, ← List.getD_eq_getElem?_getD]
    · rw [Fo.size] at hjr
      rw [hn5 j hj (by omega), hK5 j (by omega) (by omega), hg2 j hj]
/-- All nodes, gone over. -/
theorem runK_all {l : List Exp} {F : Fo} (h : Tied [] l F) (N : Nat → List UInt8) (hN : ∀ j, j < F.size + 1 → N j = (allN F).getD j []) :
    ∀ j, j < F.size + 1 → ((List.range (F.size + 1)).foldl (stepK N) ([], fun _ => [])).2 j = ((allK F).map (fun k => k.kids.map Prod.snd)).getD j [] := by
  have h0 : N 0 = [] := by have := hN 0 (by omega); simpa [allN] using this
  obtain ⟨ex', kf', h1, h2, h3, h4, h5⟩ := runK_forest N F [] 1 0 [] [] (fun _ => []) h.ok h0 (by omega) (fun j hj => by
    have := hN (j + 1) (by omega)
    rw [show 1 + j = j + 1 by omega, this]
    simp [allN]) (by simp) (fun _ _ => rfl)
  have e : (List.range (F.size + 1)).foldl (stepK N) ([], fun _ => []) = (ex' ++ [0], kf') := by
    rw [List.range_eq_range', List.range'_succ, List.foldl_cons]
    exact h1
  intro j hj
  rw [e]
  dsimp only
  rcases Nat.eq_zero_or_pos j with hz | hz
  · subst hz
    rw [h3]; simp [allK]
  · obtain ⟨j, rfl⟩ : ∃ k, j = k + 1 := ⟨j - 1, by omega⟩
    have := h4 j (by omega)
    rw [show 1 + j = j + 1 by omega] at this
    rw [this]; simp [allK]
/-- A child's name is its parent's, and the edge. -/
theorem Fo.refs_names (N : Nat → List UInt8) : ∀ (F : Fo) (p : List UInt8) (at_ : Nat), (∀ j, j < F.size → N (at_ + j) = (F.names p).getD j []) →
    (∀ r ∈ F.refs at_, N r.2 = p ++ r.1) ∧ ∀ j k, (F.knots at_)[j]? = some k → ∀ r ∈ k.kids, N r.2 = N (at_ + j) ++ r.1
  | .nil, p, at_, _ => by simp [Fo.refs, Fo.knots]
  | .cons e s K n, p, at_, hN => by
    have hN0 : N at_ = p ++ e := by
      have := hN 0 (by rw [Fo.size]; omega)
      simpa [Fo.names] using this
    have hNK : ∀ j, j < K.size → N (at_ + 1 + j) = (K.names (p ++ e)).getD j [] := by
      intro j hj
      have := hN (j + 1) (by rw [Fo.size]; omega)
      rw [show at_ + (j + 1) = at_ + 1 + j by omega, Fo.names, List.getD_cons_succ] at this
      rw [this, List.getD_eq_getElem?_getD, List.getElem?_append_left (by rw [Fo.names_len]; exact hj), ← List.getD_eq_getElem?_getD]
    have hNn : ∀ j, j < n.size → N (at_ + 1 + K.size + j) = (n.names p).getD j [] := by
      intro j hj
      have := hN (K.size + j + 1) (by rw [Fo.size]; omega)
      rw [show at_ + (K.size + j + 1) = at_ + 1 + K.size + j by omega, Fo.names, List.getD_cons_succ] at this
      rw [this, List.getD_eq_getElem?_getD, List.getElem?_append_right (by rw [Fo.names_len]; omega), Fo.names_len, ← List.getD_eq_getElem?_getD]
      congr 1; omega
    obtain ⟨a1, a2⟩ := Fo.refs_names N K (p ++ e) (at_ + 1) hNK
    obtain ⟨b1, b2⟩ := Fo.refs_names N n p (at_ + 1 + K.size) hNn
    refine ⟨fun r hr => ?_, fun j k hk r hr => ?_⟩
    · rw [Fo.refs] at hr
      rcases List.mem_cons.1 hr with rfl | hr
      · exact hN0
      · exact b1 r hr
    · rw [Fo.knots] at hk
      rcases Nat.eq_zero_or_pos j with h0 | h0
      · subst h0
        simp at hk
        subst hk
        rw [Nat.add_zero, hN0]
        exact a1 r hr
      · obtain ⟨j, rfl⟩ : ∃ k, j = k + 1 := ⟨j - 1, by omega⟩
        rw [List.getElem?_cons_succ] at hk
        by_cases hjk : j < K.size
        · rw [List.getElem?_append_left (by rw [Fo.knots_len]; exact hjk)] at hk
          have := a2 j k hk r hr
          rwa [show at_ + 1 + j = at_ + (j + 1) by omega] at this
        · rw [List.getElem?_append_right (by rw [Fo.knots_len]; omega), Fo.knots_len] at hk
          have := b2 (j - K.size) k hk r hr
          rwa [show at_ + 1 + K.size + (j - K.size) = at_ + (j + 1) by omega] at this
theorem allK_names {F : Fo} (N : Nat → List UInt8) (hN : ∀ j, j < F.size + 1 → N j = (allN F).getD j []) {j : Nat} {k : Knot} (hk : (allK F)[j]? = some k) : ∀ r ∈ k.kids, N r.2 = N j ++ r.1 := by
  have h0 : N 0 = [] := by have := hN 0 (by omega); simpa [allN] using this
  obtain ⟨a1, a2⟩ := Fo.refs_names N F [] 1 (fun j hj => by
    have := hN (j + 1) (by omega)
    rw [show 1 + j = j + 1 by omega, this]; simp [allN])
  intro r hr
  unfold allK at hk
  rcases Nat.eq_zero_or_pos j with hz | hz
  · subst hz
    simp at hk; subst hk
    rw [h0]; exact a1 r hr
  · obtain ⟨j, rfl⟩ : ∃ k, j = k + 1 := ⟨j - 1, by omega⟩
    rw [List.getElem?_cons_succ] at hk
    have := a2 j k hk r hr
    rwa [show 1 + j = j + 1 by omega] at this
end Go.Proofs.YthhjdkcnkdffcaaGreat

namespace Go.Proofs.YthhjdkcnkdffcaaGreat
set_option linter.unusedSimpArgs false
set_option linter.unusedVariables false
/-! ### a number's bytes -/
def putF : Nat → Nat → List UInt8
  | 0, _ => []
  | f + 1, n => if n < 128 then [UInt8.ofNat n] else UInt8.ofNat (n % 128 + 128) :: putF f (n / 128)
def putM (n : Nat) : List UInt8 := putF 10 n
theorem putF_small {f n : Nat} (h : n < 128) : putF (f + 1) n = [UInt8.ofNat n] := by rw [putF, if_pos h]
theorem putF_big {f n : Nat} (h : ¬ n < 128) : putF (f + 1) n = UInt8.ofNat (n % 128 + 128) :: putF f (n / 128) := by rw [putF, if_neg h]
theorem putF_len : ∀ (f n : Nat), (putF f n).length ≤ f
  | 0, _ => Nat.le_refl _
  | f + 1, n => by
    rw [putF]
    split
    · simp
    · have := putF_len f (n / 128); simp only [List.length_cons]; omega
theorem putM_len (n : Nat) : (putM n).length ≤ 10 := putF_len 10 n
theorem putM_pos (n : Nat) : 1 ≤ (putM n).length := by unfold putM; rw [putF]; split <;> simp
theorem putF_mono : ∀ (f n m : Nat), n ≤ m → (putF f n).length ≤ (putF f m).length
  | 0, _, _, _ => Nat.le_refl _
  | f + 1, n, m, h => by
    by_cases h1 : n < 128
    · rw [putF_small h1]
      by_cases h2 : m < 128
      · rw [putF_small h2]; simp
      · rw [putF_big h2]; simp
    · rw [putF_big h1, putF_big (by omega)]
      have := putF_mono f (n / 128) (m / 128) (Nat.div_le_div_right h)
      simpa using this
/-- It is read as it was put. -/
theorem uleb_putF (r : List UInt8) : ∀ (f i m acc : Nat), f + i = 10 → m * 128 ^ i < 2 ^ 64 → (0 < f ∨ 0 < m) → ulebF f (putF f m ++ r) i acc = some (acc + m * 128 ^ i, i + (putF f m).length)
  | 0, i, m, acc, hf, hm, hpos => by
    obtain rfl : i = 10 := by omega
    have h10 : (128 : Nat) ^ 10 = 1180591620717411303424 := by decide
    rw [h10] at hm
    exfalso; omega
  | f + 1, i, m, acc, hf, hm, hpos => by
    by_cases h : m < 128
    · rw [putF_small h, List.singleton_append, ulebF]
      have hg : grp (UInt8.ofNat m) = m := by unfold grp; simp; omega
      have hn : (UInt8.ofNat m).toNat < 128 := by simp; omega
      rw [hg, if_neg, if_pos hn]
      · rfl
      · rintro ⟨rfl, h2⟩
        have h9 : (128 : Nat) ^ 9 = 9223372036854775808 := by decide
        rw [h9] at hm; omega
    · rw [putF_big h, List.cons_append, ulebF]
      have hg : grp (UInt8.ofNat (m % 128 + 128)) = m % 128 := by unfold grp; simp <;> omega
      have hn : ¬ (UInt8.ofNat (m % 128 + 128)).toNat < 128 := by simp <;> omega
      have hi9 : i ≠ 9 := by
        rintro rfl
        have h9 : (128 : Nat) ^ 9 = 9223372036854775808 := by decide
        rw [h9] at hm; omega
      have hp : 128 ^ (i + 1) = 128 ^ i * 128 := Nat.pow_succ ..
      have hle : m / 128 * 128 ^ (i + 1) + m % 128 * 128 ^ i = m * 128 ^ i := by
        rw [hp, ← Nat.mul_assoc, Nat.mul_right_comm, ← Nat.add_mul]
        congr 1; omega
      rw [hg, if_neg (by omega), if_neg hn, uleb_putF r f (i + 1) (m / 128) _ (by omega) (by omega) (by omega)]
      simp only [List.length_cons, Option.some.injEq, Prod.mk.injEq]
      exact ⟨by omega, by omega⟩
theorem uleb_put (n : Nat) (r : List UInt8) (h : n < 2 ^ 64) : ulebM (putM n ++ r) = some (n, (putM n).length) := by
  have := uleb_putF r 10 0 n 0 rfl (by simpa using h) (by omega)
  unfold ulebM putM
  rw [this]; simp
/-! ### what is said, as bytes -/
def flagsM (x : Exp) : Nat := (if x.kind = 2 then 2 else if x.kind = 3 then 8 else if x.kind = 4 then 16 else 0) + (if x.weak then 4 else 0)
def restB (x : Exp) : List UInt8 := if x.kind = 3 then putM x.ordinal ++ (x.other ++ [0]) else if x.kind = 4 then putM x.value ++ putM x.resolver else putM x.value
def bodyM (x : Exp) : List UInt8 := putM (flagsM x) ++ restB x
def saidM : Option Exp → List UInt8
  | none => [0]
  | some x => putM (bodyM x).length ++ bodyM x
theorem bodyM_len (x : Exp) : (bodyM x).length ≤ 31 + x.other.length := by
  unfold bodyM restB
  have a := putM_len (flagsM x)
  have b := putM_len x.ordinal
  have c := putM_len x.value
  have d := putM_len x.resolver
  rw [List.length_append]
  split
  · simp only [List.length_append, List.length_cons, List.length_nil]; omega
  · split
    · rw [List.length_append]; omega
    · omega
theorem saidM_len (x : Exp) : (saidM (some x)).length ≤ 41 + x.other.length := by
  unfold saidM
  rw [List.length_append]
  have := putM_len (bodyM x).length
  have := bodyM_len x
  omega
/-! ### a knot's bytes -/
def kidB (P : List Nat) (r : List UInt8 × Nat) : List UInt8 := r.1 ++ 0 :: putM (P.getD r.2 0)
def knotB (P : List Nat) (k : Knot) : List UInt8 := saidM k.says ++ UInt8.ofNat k.kids.length :: k.kids.flatMap (kidB P)
def outB (ks : List Knot) (P : List Nat) : List UInt8 := ks.flatMap (knotB P)
def nextP (ks : List Knot) (P : List Nat) : List Nat := (List.range ks.length).map (fun i => (outB (ks.take i) P).length)
def iterP (ks : List Knot) : Nat → List Nat
  | 0 => List.replicate ks.length 0
  | n + 1 => nextP ks (iterP ks n)
theorem outB_take {ks : List Knot} {P : List Nat} {i : Nat} {k : Knot} (h : ks[i]? = some k) : outB (ks.take (i + 1)) P = outB (ks.take i) P ++ knotB P k := by
  rw [take_snoc h]; simp [outB]
theorem nextP_len (ks : List Knot) (P : List Nat) : (nextP ks P).length = ks.length := by simp [nextP]
theorem nextP_get (ks : List Knot) (P : List Nat) {i : Nat} (h : i < ks.length) : (nextP ks P)[i]? = some (outB (ks.take i) P).length := by
  unfold nextP; rw [List.getElem?_map, List.getElem?_range h]; rfl
theorem nextP_getD (ks : List Knot) (P : List Nat) {i : Nat} (h : i < ks.length) : (nextP ks P).getD i 0 = (outB (ks.take i) P).length := by
  rw [List.getD_eq_getElem?_getD, nextP_get ks P h]; rfl
theorem iterP_len (ks : List Knot) : ∀ n, (iterP ks n).length = ks.length
  | 0 => by simp [iterP]
  | n + 1 => nextP_len _ _
/-- A bound of a knot's bytes, wherever the others stand. -/
def capK (k : Knot) : Nat := (saidM k.says).length + 1 + (k.kids.map (fun r => r.1.length + 11)).sum
def capB (ks : List Knot) : Nat := (ks.map capK).sum
theorem kidsB_le (P : List Nat) : ∀ l : List (List UInt8 × Nat), (l.flatMap (kidB P)).length ≤ (l.map (fun r => r.1.length + 11)).sum
  | [] => Nat.le_refl _
  | r :: l => by
    have ih := kidsB_le P l
    have := putM_len (P.getD r.2 0)
    rw [List.flatMap_cons, List.length_append, List.map_cons, List.sum_cons]
    unfold kidB
    rw [List.length_append, List.length_cons]
    unfold kidB at ih
    omega
theorem knotB_le (P : List Nat) (k : Knot) : (knotB P k).length ≤ capK k := by
  unfold knotB capK
  have := kidsB_le P k.kids
  rw [List.length_append, List.length_cons]; omega
theorem outB_le (P : List Nat) : ∀ ks : List Knot, (outB ks P).length ≤ capB ks
  | [] => Nat.le_refl _
  | k :: ks => by
    have ih := outB_le P ks
    have := knotB_le P k
    show (knotB P k ++ outB ks P).length ≤ capK k + capB ks
    rw [List.length_append]; omega
theorem outB_take_le (P : List Nat) (ks : List Knot) (i : Nat) : (outB (ks.take i) P).length ≤ (outB ks P).length := by
  have e : outB ks P = outB (ks.take i) P ++ outB (ks.drop i) P := by
    unfold outB
    rw [← List.flatMap_append, List.take_append_drop]
  rw [e, List.length_append]; omega
/-! ### they rise -/
def LeP (P Q : List Nat) : Prop := ∀ i, P.getD i 0 ≤ Q.getD i 0
theorem kidsB_mono {P Q : List Nat} (h : LeP P Q) : ∀ l : List (List UInt8 × Nat), (l.flatMap (kidB P)).length ≤ (l.flatMap (kidB Q)).length
  | [] => Nat.le_refl _
  | r :: l => by
    have ih := kidsB_mono h l
    have := putF_mono 10 _ _ (h r.2)
    rw [List.flatMap_cons, List.length_append, List.flatMap_cons, List.length_append]
    unfold kidB putM at ih ⊢
    rw [List.length_append, List.length_append, List.length_cons, List.length_cons]
    omega
theorem outB_mono {P Q : List Nat} (h : LeP P Q) : ∀ ks : List Knot, (outB ks P).length ≤ (outB ks Q).length
  | [] => Nat.le_refl _
  | k :: ks => by
    have ih := outB_mono h ks
    have := kidsB_mono h k.kids
    show (knotB P k ++ outB ks P).length ≤ (knotB Q k ++ outB ks Q).length
    rw [List.length_append, List.length_append]
    unfold knotB
    rw [List.length_append, List.length_append, List.length_cons, List.length_cons]
    omega
theorem nextP_mono {P Q : List Nat} (ks : List Knot) (h : LeP P Q) : LeP (nextP ks P) (nextP ks Q) := by
  intro i
  by_cases hi : i < ks.length
  · rw [nextP_getD ks P hi, nextP_getD ks Q hi]; exact outB_mono h _
  · rw [List.getD_eq_getElem?_getD, List.getElem?_eq_none (by rw [nextP_len]; omega)]; exact Nat.zero_le _
theorem iterP_rises (ks : List Knot) : ∀ n, LeP (iterP ks n) (iterP ks (n + 1))
  | 0 => by
    intro i
    have : (iterP ks 0).getD i 0 = 0 := by
      unfold iterP
      rw [List.getD_eq_getElem?_getD]
      by_cases h : i < ks.length
      · rw [List.getElem?_replicate, if_pos h]; rfl
      · rw [List.getElem?_eq_none (by simp; omega)]; rfl
    omega
  | n + 1 => nextP_mono ks (iterP_rises ks n)
/-- What is left to rise. -/
def leftP (C : Nat) (P : List Nat) : Nat := (P.map (fun a => C - a)).sum
theorem leftP_lt (C : Nat) : ∀ (P Q : List Nat), P.length = Q.length → LeP P Q → (∀ a ∈ Q, a < C) → P ≠ Q → leftP C Q < leftP C P
  | [], [], _, _, _, h => absurd rfl h
  | a :: P, b :: Q, hl, h, hC, hne => by
    have h0 : a ≤ b := by have := h 0; simpa using this
    have ht : LeP P Q := fun i => by have := h (i + 1); simpa using this
    have hb := hC b (by simp)
    have hle : leftP C Q ≤ leftP C P := by
      by_cases e : P = Q
      · rw [e]; exact Nat.le_refl _
      · exact Nat.le_of_lt (leftP_lt C P Q (by simpa using hl) ht (fun x hx => hC x (by simp [hx])) e)
    show (C - b) + leftP C Q < (C - a) + leftP C P
    by_cases e : a = b
    · subst e
      have hne' : P ≠ Q := fun e => hne (by rw [e])
      have := leftP_lt C P Q (by simpa using hl) ht (fun x hx => hC x (by simp [hx])) hne'
      omega
    · omega
theorem nextP_lt (ks : List Knot) (P : List Nat) : ∀ a ∈ nextP ks P, a < capB ks + 1 := by
  intro a ha
  unfold nextP at ha
  obtain ⟨i, -, rfl⟩ := List.mem_map.1 ha
  have h1 := outB_take_le P ks i
  have h2 := outB_le P ks
  omega
/-- A round more lowers what is left to rise. -/
theorem iterP_left (ks : List Knot) (n : Nat) (h : nextP ks (iterP ks n) ≠ iterP ks n) : leftP (capB ks + 1) (iterP ks (n + 1)) < leftP (capB ks + 1) (iterP ks n) :=
  leftP_lt _ _ _ (by rw [iterP_len, iterP_len]) (iterP_rises ks n) (nextP_lt ks _) (fun e => h e.symm)
/-- Places that stand. -/
def Fix (ks : List Knot) (P : List Nat) : Prop := ∃ n, P = iterP ks n ∧ nextP ks P = P
theorem fix_stay {ks : List Knot} {n : Nat} (h : nextP ks (iterP ks n) = iterP ks n) : ∀ k, iterP ks (n + k) = iterP ks n
  | 0 => rfl
  | k + 1 => by
    show nextP ks (iterP ks (n + k)) = _
    rw [fix_stay h k, h]
theorem fix_one {ks : List Knot} {P Q : List Nat} (h1 : Fix ks P) (h2 : Fix ks Q) : P = Q := by
  obtain ⟨n, rfl, hn⟩ := h1
  obtain ⟨m, rfl, hm⟩ := h2
  rcases Nat.le_total n m with h | h
  · obtain ⟨k, rfl⟩ : ∃ k, m = n + k := ⟨m - n, by omega⟩
    exact (fix_stay hn k).symm
  · obtain ⟨k, rfl⟩ : ∃ k, n = m + k := ⟨n - m, by omega⟩
    exact fix_stay hm k
theorem fix_any (ks : List Knot) : ∃ P, Fix ks P := by
  have : ∀ (m n : Nat), leftP (capB ks + 1) (iterP ks n) ≤ m → ∃ P, Fix ks P := by
    intro m
    induction m with
    | zero =>
      intro n h
      by_cases e : nextP ks (iterP ks n) = iterP ks n
      · exact ⟨_, n, rfl, e⟩
      · have := iterP_left ks n e; omega
    | succ m ih =>
      intro n h
      by_cases e : nextP ks (iterP ks n) = iterP ks n
      · exact ⟨_, n, rfl, e⟩
      · have := iterP_left ks n e
        exact ih (n + 1) (by omega)
  exact this _ 0 (Nat.le_refl _)
end Go.Proofs.YthhjdkcnkdffcaaGreat

namespace Go.Proofs.YthhjdkcnkdffcaaGreat
set_option linter.unusedSimpArgs false
set_option linter.unusedVariables false
/-- An export that may be. -/
structure GoodX (x : Exp) : Prop where
  name1 : 1 ≤ x.name.length
  name2 : x.name.length ≤ 255
  name3 : nul x.name = x.name.length
  other2 : x.other.length ≤ 255
  other3 : nul x.other = x.other.length
  v : x.value < 2 ^ 64
  r : x.resolver < 2 ^ 64
  o : x.ordinal < 2 ^ 64
  kind : ((x.kind = 1 ∨ x.kind = 2) ∧ x.resolver = 0 ∧ x.ordinal = 0 ∧ x.other = []) ∨ (x.kind = 3 ∧ x.value = 0 ∧ x.resolver = 0) ∨ (x.kind = 4 ∧ x.ordinal = 0 ∧ x.other = [])
theorem nul_app {t : List UInt8} (h : nul t = t.length) (r : List UInt8) : nul (t ++ 0 :: r) = t.length := by
  induction t with
  | nil => simp [nul]
  | cons a t ih =>
    rw [nul_cons] at h
    rw [List.cons_append, nul_cons]
    split at h
    · simp at h
    · rename_i ha
      rw [if_neg ha, ih (by simpa using h)]; rfl
theorem nul_prefix {s t : List UInt8} (h : nul t = t.length) (hp : s <+: t) : nul s = s.length := by
  obtain ⟨r, rfl⟩ := hp
  induction s with
  | nil => rfl
  | cons a s ih =>
    rw [List.cons_append, nul_cons] at h
    rw [nul_cons]
    split at h
    · simp at h
    · rename_i ha
      rw [if_neg ha, ih (by simpa using h)]; rfl
theorem nul_drop {t : List UInt8} (h : nul t = t.length) (k : Nat) : nul (t.drop k) = (t.drop k).length := by
  induction t generalizing k with
  | nil => simp [nul]
  | cons a t ih =>
    cases k with
    | zero => exact h
    | succ k =>
      rw [List.drop_succ_cons]
      refine ih ?_ k
      rw [nul_cons] at h
      split at h
      · simp at h
      · simpa using h
theorem text_app {t : List UInt8} (h : nul t = t.length) (hl : t.length ≤ 255) (r : List UInt8) : textR (t ++ 0 :: r) = some (t, t.length + 1) := by
  unfold textR
  rw [nul_app h r, if_pos ⟨by simp, hl⟩, List.take_left]
theorem flags_back (F : Nat) (h : F = 0 ∨ F = 2 ∨ F = 8 ∨ F = 16) (wk : Bool) : ((F + if wk then 4 else 0) / 4 % 2 == 1) = wk ∧ bareF (F + if wk then 4 else 0) = F := by
  rcases h with rfl | rfl | rfl | rfl <;> cases wk <;> decide
/-- What is said is read as it was said. -/
theorem says_body {x : Exp} (h : GoodX x) (r : List UInt8) : saysR (bodyM x ++ r) = some ({ x with name := [] }, (bodyM x).length) := by
  obtain ⟨fl, hfl⟩ : ∃ fl, fl = flagsM x := ⟨_, rfl⟩
  have hf : flagsM x < 2 ^ 64 := by unfold flagsM; split <;> split <;> (try split) <;> (try split) <;> omega
  unfold saysR bodyM
  rw [List.append_assoc, uleb_put _ _ hf]
  dsimp only
  have hd : ∀ s, (putM (flagsM x) ++ s).drop (putM (flagsM x)).length = s := fun s => List.drop_left
  have hd2 : ∀ (a s : List UInt8), (putM (flagsM x) ++ (a ++ s)).drop ((putM (flagsM x)).length + a.length) = s := fun a s => by
    rw [← List.drop_drop, hd, List.drop_left]
  obtain ⟨nm, kd, wk, v, rs, od, ot⟩ := x
  have hF : (if kd = 2 then 2 else if kd = 3 then 8 else if kd = 4 then 16 else 0) = 0 ∨ (if kd = 2 then 2 else if kd = 3 then 8 else if kd = 4 then 16 else 0) = 2 ∨ (if kd = 2 then 2 else if kd = 3 then 8 else if kd = 4 then 16 else 0) = 8 ∨ (if kd = 2 then 2 else if kd = 3 then 8 else if kd = 4 then 16 else 0) = 16 := by
    split
    · simp
    · split
      · simp
      · split <;> simp
  obtain ⟨hw, hb⟩ := flags_back _ hF wk
  have hw : (flagsM ⟨nm, kd, wk, v, rs, od, ot⟩ / 4 % 2 == 1) = wk := hw
  have hb : bareF (flagsM ⟨nm, kd, wk, v, rs, od, ot⟩) = if kd = 2 then 2 else if kd = 3 then 8 else if kd = 4 then 16 else 0 := hb
  rw [hw, hb]
  have hv := h.v
  have hr := h.r
  have ho := h.o
  rcases h.kind with ⟨hk, h1, h2, h3⟩ | ⟨hk, h1, h2⟩ | ⟨hk, h1, h2⟩
  · dsimp only at h1 h2 h3 hk hv
    subst h1; subst h2; subst h3
    have hrest : restB ⟨nm, kd, wk, v, 0, 0, []⟩ = putM v := by
      unfold restB; dsimp only; rw [if_neg (by omega), if_neg (by omega)]
    rw [hrest]
    rcases hk with rfl | rfl
    · unfold saysF
      rw [if_neg (by decide), if_pos (by decide), hd, uleb_put _ _ hv]
      dsimp only
      rw [List.length_append]
    · unfold saysF
      rw [if_neg (by decide), if_neg (by decide), if_pos (by decide), hd, uleb_put _ _ hv]
      dsimp only
      rw [List.length_append]
  · dsimp only at h1 h2 hk ho
    subst h1; subst h2; subst hk
    have hrest : restB ⟨nm, 3, wk, 0, 0, od, ot⟩ = putM od ++ (ot ++ [0]) := by unfold restB; dsimp only; rw [if_pos rfl]
    rw [hrest]
    unfold saysF
    rw [if_pos (by decide), hd, List.append_assoc, uleb_put _ _ ho]
    dsimp only
    rw [hd2, List.append_assoc, List.singleton_append, text_app h.other3 h.other2]
    simp only [List.length_append, List.length_cons, List.length_nil, Option.some.injEq, Prod.mk.injEq, true_and]
    omega
  · dsimp only at h1 h2 hk hv hr
    subst h1; subst h2; subst hk
    have hrest : restB ⟨nm, 4, wk, v, rs, 0, []⟩ = putM v ++ putM rs := by unfold restB; dsimp only; rw [if_neg (by omega), if_pos rfl]
    rw [hrest]
    unfold saysF
    rw [if_neg (by decide), if_neg (by decide), if_neg (by decide), if_pos (by decide), hd, List.append_assoc, uleb_put _ _ hv]
    dsimp only
    rw [hd2, uleb_put _ _ hr]
    simp only [List.length_append, Option.some.injEq, Prod.mk.injEq, true_and]
    omega
/-- A knot's children, as they are read. -/
def kidsOf (P : List Nat) (l : List (List UInt8 × Nat)) : List KidM := l.map (fun r => ⟨r.1, (P.getD r.2 0 : Nat)⟩)
theorem kids_read (P : List Nat) (all : Nat) (r : List UInt8) : ∀ (l : List (List UInt8 × Nat)) (acc : List KidM),
    (∀ x ∈ l, x.1 ≠ [] ∧ nul x.1 = x.1.length ∧ x.1.length ≤ 255 ∧ P.getD x.2 0 < all ∧ P.getD x.2 0 < 2 ^ 64) → l.Pairwise (fun a b => a.1.head? ≠ b.1.head?) → (∀ a ∈ acc, ∀ x ∈ l, a.edge.head? ≠ x.1.head?) →
    kidsR all l.length (l.flatMap (kidB P) ++ r) acc = some (acc ++ kidsOf P l)
  | [], acc, _, _, _ => by simp [kidsR, kidsOf]
  | x :: l, acc, h, hp, ha => by
    obtain ⟨h1, h2, h3, h4, h5⟩ := h x (by simp)
    have hp' := List.pairwise_cons.1 hp
    rw [List.length_cons, kidsR, List.flatMap_cons, List.append_assoc]
    have e1 : kidB P x ++ (l.flatMap (kidB P) ++ r) = x.1 ++ 0 :: (putM (P.getD x.2 0) ++ (l.flatMap (kidB P) ++ r)) := by simp [kidB]
    rw [e1, text_app h2 h3]
    dsimp only
    have e2 : (x.1 ++ 0 :: (putM (P.getD x.2 0) ++ (l.flatMap (kidB P) ++ r))).drop (x.1.length + 1) = putM (P.getD x.2 0) ++ (l.flatMap (kidB P) ++ r) := by
      rw [← List.drop_drop, List.drop_left]; rfl
    rw [e2, uleb_put _ _ h5]
    dsimp only
    have e3 : acc.any (fun y => y.edge.head? == x.1.head?) = false := by
      rw [List.any_eq_false]
      intro a ham
      have := ha a ham x (by simp)
      simpa using this
    rw [if_neg h1, e3, if_neg (by simp), ← List.drop_drop, e2, List.drop_left]
    have e4 : placeM (P.getD x.2 0) all = ((P.getD x.2 0 : Nat) : Int) := by unfold placeM; rw [if_neg (by omega)]
    rw [e4, kids_read P all r l _ (fun y hy => h y (by simp [hy])) hp'.2 (fun a ham y hy => ?_)]
    · simp [kidsOf]
    · rcases List.mem_append.1 ham with h6 | h6
      · exact ha a h6 y (by simp [hy])
      · simp at h6; subst h6; exact hp'.1 y hy
/-- A knot that can be read. -/
structure KnotOk (P : List Nat) (all : Nat) (k : Knot) : Prop where
  says : ∀ x, k.says = some x → GoodX x
  few : k.kids.length < 256
  kids : ∀ x ∈ k.kids, x.1 ≠ [] ∧ nul x.1 = x.1.length ∧ x.1.length ≤ 255 ∧ P.getD x.2 0 < all ∧ P.getD x.2 0 < 2 ^ 64
  apart : k.kids.Pairwise (fun a b => a.1.head? ≠ b.1.head?)
/-- What is read of what is said: all but the name. -/
def bareX : Option Exp → Exp
  | some x => { x with name := [] }
  | none => Exp.zero
theorem knotB_pos (P : List Nat) (k : Knot) : 1 ≤ (knotB P k).length := by
  unfold knotB
  rw [List.length_append, List.length_cons]; omega
/-- The node that is read where a knot stands. -/
theorem read_knot {b : List UInt8} {P : List Nat} {k : Knot} {at_ : Nat} {r : List UInt8} (hk : KnotOk P b.length k) (hb : b.drop at_ = knotB P k ++ r) :
    readM b at_ = some ⟨k.says.isSome, bareX k.says, kidsOf P k.kids⟩ := by
  have hm : (UInt8.ofNat k.kids.length).toNat = k.kids.length := by have := hk.few; simp; omega
  have hl : b.length = at_ + (knotB P k ++ r).length ∨ b.length < at_ := by
    rw [← hb, List.length_drop]; omega
  have hne : 0 < (knotB P k ++ r).length := by rw [List.length_append]; have := knotB_pos P k; omega
  have hl : b.length = at_ + (knotB P k ++ r).length := by
    rcases hl with h | h
    · exact h
    · rw [← hb, List.length_drop] at hne; omega
  obtain ⟨says, kids⟩ := k
  cases says with
  | none =>
    have e0 : knotB P ⟨none, kids⟩ ++ r = [0] ++ (UInt8.ofNat kids.length :: (kids.flatMap (kidB P) ++ r)) := by simp [knotB, saidM]
    rw [e0] at hb hl
    have hu : ulebM (b.drop at_) = some (0, 1) := by
      rw [hb]
      have := uleb_put 0 (UInt8.ofNat kids.length :: (kids.flatMap (kidB P) ++ r)) (by decide)
      exact this
    have hd : b.drop (at_ + 1 + 0 + 1) = kids.flatMap (kidB P) ++ r := by
      rw [show at_ + 1 + 0 + 1 = at_ + 2 by omega, ← List.drop_drop, hb]; rfl
    have hc : b[at_ + 1 + 0]? = some (UInt8.ofNat kids.length) := by
      have : (b.drop at_)[1]? = some (UInt8.ofNat kids.length) := by rw [hb]; rfl
      rw [List.getElem?_drop] at this
      exact this
    unfold readM
    rw [hu]
    dsimp only
    rw [if_neg (by omega), if_pos rfl]
    dsimp only
    rw [hc]
    dsimp only
    rw [hd, hm, kids_read P b.length r kids [] hk.kids hk.apart (by simp)]
    rfl
  | some x =>
    have hx := hk.says x rfl
    have hbl := bodyM_len x
    have ho2 := hx.other2
    have hbp : 1 ≤ (bodyM x).length := by unfold bodyM; rw [List.length_append]; have := putM_pos (flagsM x); omega
    have e0 : knotB P ⟨some x, kids⟩ ++ r = putM (bodyM x).length ++ (bodyM x ++ (UInt8.ofNat kids.length :: (kids.flatMap (kidB P) ++ r))) := by simp [knotB, saidM]
    rw [e0] at hb hl
    have hu : ulebM (b.drop at_) = some ((bodyM x).length, (putM (bodyM x).length).length) := by rw [hb]; exact uleb_put _ _ (by omega)
    have hd1 : b.drop (at_ + (putM (bodyM x).length).length) = bodyM x ++ (UInt8.ofNat kids.length :: (kids.flatMap (kidB P) ++ r)) := by
      rw [← List.drop_drop, hb, List.drop_left]
    have hd2 : b.drop (at_ + (putM (bodyM x).length).length + (bodyM x).length) = UInt8.ofNat kids.length :: (kids.flatMap (kidB P) ++ r) := by
      rw [← List.drop_drop, hd1, List.drop_left]
    have hd : b.drop (at_ + (putM (bodyM x).length).length + (bodyM x).length + 1) = kids.flatMap (kidB P) ++ r := by
      rw [← List.drop_drop, hd2]; rfl
    have hc : b[at_ + (putM (bodyM x).length).length + (bodyM x).length]? = some (UInt8.ofNat kids.length) := by
      have : (b.drop (at_ + (putM (bodyM x).length).length + (bodyM x).length))[0]? = some (UInt8.ofNat kids.length) := by rw [hd2]; rfl
      rw [List.getElem?_drop] at this
      exact this
    unfold readM
    rw [hu]
    dsimp only
    rw [List.length_append, List.length_append] at hl
    rw [if_neg (by omega), if_neg (by omega), hd1, says_body hx]
    dsimp only
    rw [if_pos rfl]
    dsimp only
    rw [hc]
    dsimp only
    rw [hd, hm, kids_read P b.length r kids [] hk.kids hk.apart (by simp)]
    dsimp only
    rw [decide_eq_true (show 0 < (bodyM x).length by omega)]
    rfl
/-! ### all is told -/
theorem drop_place {ks : List Knot} {P : List Nat} (hfix : nextP ks P = P) {i : Nat} {k : Knot} (hk : ks[i]? = some k) : (outB ks P).drop (P.getD i 0) = knotB P k ++ outB (ks.drop (i + 1)) P := by
  obtain ⟨hlt, he⟩ := List.getElem?_eq_some_iff.1 hk
  have h1 : P.getD i 0 = (outB (ks.take i) P).length := by
    have := nextP_getD ks P hlt
    rw [hfix] at this; exact this
  have e : outB ks P = outB (ks.take i) P ++ (knotB P k ++ outB (ks.drop (i + 1)) P) := by
    have : ks = ks.take i ++ k :: ks.drop (i + 1) := by
      rw [← he, ← List.drop_eq_getElem_cons hlt, List.take_append_drop]
    conv => lhs; rw [this]
    simp [outB]
  rw [h1, e, List.drop_left]
theorem place_lt {ks : List Knot} {P : List Nat} (hfix : nextP ks P = P) {i j : Nat} (hij : i < j) (hj : j < ks.length) : P.getD i 0 < P.getD j 0 := by
  have hi : i < ks.length := by omega
  have h1 := nextP_getD ks P hi
  have h2 := nextP_getD ks P hj
  rw [hfix] at h1 h2
  rw [h1, h2]
  have hk : ks[i]? = some ks[i] := List.getElem?_eq_getElem hi
  have h3 := outB_take (P := P) hk
  have h4 : (outB (ks.take (i + 1)) P).length ≤ (outB (ks.take j) P).length := by
    have := outB_take_le P (ks.take j) (i + 1)
    rwa [List.take_take, Nat.min_eq_left (by omega)] at this
  rw [h3, List.length_append] at h4
  have h5 := knotB_pos P ks[i]
  omega
theorem place_in {ks : List Knot} {P : List Nat} (hfix : nextP ks P = P) {j : Nat} (hj : j < ks.length) : P.getD j 0 < (outB ks P).length := by
  have h2 := nextP_getD ks P hj
  rw [hfix] at h2
  rw [h2]
  have hk : ks[j]? = some ks[j] := List.getElem?_eq_getElem hj
  have h3 := outB_take (P := P) hk
  have h4 := outB_take_le P ks (j + 1)
  rw [h3, List.length_append] at h4
  have h5 := knotB_pos P ks[j]
  omega
theorem walk_no {ks : List Knot} {P : List Nat} (hfix : nextP ks P = P) {walk : List Int} {at_ : Nat} (hat : at_ < ks.length) (h : ∀ x ∈ walk, ∃ j, j < at_ ∧ x = ((P.getD j 0 : Nat) : Int)) : ¬ walk.contains ((P.getD at_ 0 : Nat) : Int) = true := by
  intro hc
  obtain ⟨j, hj, he⟩ := h _ (List.contains_iff_mem.1 hc)
  have := place_lt hfix hj hat
  omega
theorem told_says (k : Option Exp) (name : List UInt8) (hn : ∀ x, k = some x → x.name = name) (ks : List KidM) (out : List Exp) :
    outN ⟨k.isSome, bareX k, ks⟩ name out = out ++ k.toList := by
  cases k with
  | none => unfold outN; simp
  | some x =>
    unfold outN bareX
    have := hn x rfl
    subst this
    simp
/-- A forest's nodes, told one behind the other. -/
theorem told_forest {b : List UInt8} {ks : List Knot} {P : List Nat} (hb : b = outB ks P) (hfix : nextP ks P = P) (hok : ∀ k ∈ ks, KnotOk P b.length k) : ∀ (F : Fo) (p : List UInt8) (at_ f : Nat) (walk : List Int) (st : DownSt),
    F.Ok p → (∀ j k, (F.knots at_)[j]? = some k → ks[at_ + j]? = some k) → (∀ z ∈ F.names p, z.length ≤ 255) → 256 ≤ f + p.length → (∀ x ∈ walk, ∃ j, j < at_ ∧ x = ((P.getD j 0 : Nat) : Int)) →
    st.met + F.size ≤ 8192 → st.out.length + F.exps.length ≤ 4096 →
    eachKid (fun k s => downF b f k.to (p ++ k.edge) walk s) (kidsOf P (F.refs at_)) st = (0, ⟨st.met + F.size, st.out ++ F.exps⟩)
  | .nil, p, at_, f, walk, st, _, _, _, _, _, _, _ => by simp [Fo.refs, kidsOf, eachKid, Fo.size, Fo.exps]
  | .cons e s K n, p, at_, f, walk, st, hok1, hks, hnm, hf, hw, hm, ho => by
    obtain ⟨he, hs, hap, hK, hn⟩ := hok1
    rw [Fo.size] at hm
    have hexl : (Fo.cons e s K n).exps.length = s.toList.length + (K.exps.length + n.exps.length) := by rw [Fo.exps, List.length_append, List.length_append]
    rw [hexl] at ho
    have hq : (p ++ e).length ≤ 255 := hnm (p ++ e) (by rw [Fo.names]; simp)
    have hlen : p.length < (p ++ e).length := by
      rw [List.length_append]
      have := List.length_pos_iff.2 he
      omega
    obtain ⟨f, rfl⟩ : ∃ g, f = g + 1 := ⟨f - 1, by omega⟩
    have hk0 : ks[at_]? = some ⟨s, K.refs (at_ + 1)⟩ := by
      have := hks 0 ⟨s, K.refs (at_ + 1)⟩ (by rw [Fo.knots]; rfl)
      simpa using this
    have hlt : at_ < ks.length := (List.getElem?_eq_some_iff.1 hk0).1
    have hread := read_knot (at_ := P.getD at_ 0) (r := outB (ks.drop (at_ + 1)) P) (hok _ (List.mem_of_getElem? hk0)) (by rw [hb]; exact drop_place hfix hk0)
    dsimp only at hread
    have hno := walk_no hfix hlt hw
    have htold := told_says s (p ++ e) (fun x hx => hs x hx) (kidsOf P (K.refs (at_ + 1))) st.out
    have hgo : downF b (f + 1) ((P.getD at_ 0 : Nat) : Int) (p ++ e) walk st = (0, ⟨st.met + 1 + K.size, st.out ++ s.toList ++ K.exps⟩) := by
      have hto : (((P.getD at_ 0 : Nat) : Int)).toNat = P.getD at_ 0 := rfl
      have hsl : s.toList.length ≤ 1 := by cases s <;> simp
      rw [downF_kids (by omega) hno (by omega) (by omega) (by rw [hto]; exact hread) (by rw [htold, List.length_append]; omega), htold]
      have := told_forest hb hfix hok K (p ++ e) (at_ + 1) f (walk ++ [((P.getD at_ 0 : Nat) : Int)]) ⟨st.met + 1, st.out ++ s.toList⟩ hK (fun j k hj => by
        have := hks (j + 1) k (by
          rw [Fo.knots, List.getElem?_cons_succ, List.getElem?_append_left (List.getElem?_eq_some_iff.1 hj).1]; exact hj)
        rwa [show at_ + (j + 1) = at_ + 1 + j by omega] at this) (fun z hz => hnm z (by rw [Fo.names]; exact List.mem_cons_of_mem _ (List.mem_append_left _ hz))) (by omega) (fun x hx => by
          rcases List.mem_append.1 hx with h1 | h1
          · obtain ⟨j, hj, e⟩ := hw x h1
            exact ⟨j, by omega, e⟩
          · simp at h1; exact ⟨at_, by omega, by rw [h1]; rfl⟩) (by show st.met + 1 + K.size ≤ 8192; omega) (by show (st.out ++ s.toList).length + K.exps.length ≤ 4096; rw [List.length_append]; omega)
      exact this
    have hrefs : kidsOf P ((Fo.cons e s K n).refs at_) = ⟨e, ((P.getD at_ 0 : Nat) : Int)⟩ :: kidsOf P (n.refs (at_ + 1 + K.size)) := rfl
    rw [hrefs, eachKid_on (by dsimp only; rw [hgo])]
    dsimp only
    rw [hgo]
    dsimp only
    have := told_forest hb hfix hok n p (at_ + 1 + K.size) (f + 1) walk ⟨st.met + 1 + K.size, st.out ++ s.toList ++ K.exps⟩ hn (fun j k hj => by
      have := hks (K.size + j + 1) k (by
        rw [Fo.knots, List.getElem?_cons_succ, List.getElem?_append_right (by rw [Fo.knots_len]; omega), Fo.knots_len, show K.size + j - K.size = j by omega]; exact hj)
      rwa [show at_ + (K.size + j + 1) = at_ + 1 + K.size + j by omega] at this) (fun z hz => hnm z (by rw [Fo.names]; exact List.mem_cons_of_mem _ (List.mem_append_right _ hz))) hf (fun x hx => by
        obtain ⟨j, hj, e⟩ := hw x hx
        exact ⟨j, by omega, e⟩) (by show st.met + 1 + K.size + n.size ≤ 8192; omega) (by
          show (st.out ++ s.toList ++ K.exps).length + n.exps.length ≤ 4096
          rw [List.length_append, List.length_append]; omega)
    rw [this]
    dsimp only
    rw [Fo.size, Fo.exps]
    simp only [List.append_assoc, Prod.mk.injEq, true_and, DownSt.mk.injEq, and_true]
    omega
/-! ### every knot can be read -/
/-- Heads rise: few are side by side. -/
theorem Tied.few {p : List UInt8} {l : List Exp} {F : Fo} (h : Tied p l F) : ∀ m : Nat, m ≤ 256 → (∀ y ∈ l, ∃ d : UInt8, p ++ [d] <+: y.name ∧ m ≤ d.toNat) → F.roots + m ≤ 256 := by
  induction h with
  | nil => intro m hm _; simpa [Fo.roots] using hm
  | cons p q c x g0 rest g1 says K F hc hin hq hout hs hK hF ihK ihF =>
    intro m hm hd
    obtain ⟨d, h1, h2⟩ := hd x (by simp)
    have e := snoc_inj (hc.trans (hin x (by simp))) h1
    subst e
    have := c.toNat_lt
    have h3 := ihF (c.toNat + 1) (by omega) (fun y hy => by
      obtain ⟨d, hd1, hd2⟩ := hout y hy
      exact ⟨d, hd1, hd2⟩)
    rw [Fo.roots]; omega
theorem head_pos {p t : List UInt8} {d : UInt8} (h : nul t = t.length) (hp : p ++ [d] <+: t) : 1 ≤ d.toNat := by
  have h1 := nul_prefix h hp
  have h2 := nul_drop h1 p.length
  rw [List.drop_left] at h2
  rw [nul_cons] at h2
  split at h2
  · simp at h2
  · rename_i hne
    rcases Nat.eq_zero_or_pos d.toNat with h3 | h3
    · exact absurd (UInt8.toNat_inj.1 h3) hne
    · exact h3
theorem onto_head {p : List UInt8} {l : List Exp} (ho : Onto p l) (hx : ∀ y ∈ l, nul y.name = y.name.length) : ∀ y ∈ l, ∃ d : UInt8, p ++ [d] <+: y.name ∧ 1 ≤ d.toNat := by
  intro y hy
  obtain ⟨d, hd⟩ := prefix_more (ho y hy).1 (ho y hy).2
  exact ⟨d, hd, head_pos (hx y hy) hd⟩
theorem Tied.onto {p : List UInt8} {l : List Exp} {F : Fo} (h : Tied p l F) : Onto p l := by
  induction h with
  | nil => intro y hy; cases hy
  | cons p q c x g0 rest g1 says K F hc hin hq hout hs hK hF ihK ihF =>
    intro y hy
    obtain ⟨h1, h2, h3⟩ := tied_pq hc
    rcases List.mem_append.1 hy with hy | hy
    · have := hin y hy
      exact ⟨h1.trans this, by have := this.length_le; omega⟩
    · exact ihF y hy
/-- A knot of a forest: what is said is one of the exports; its children. -/
structure KnotIn (lo hi : Nat) (l : List Exp) (k : Knot) : Prop where
  says : ∀ x, k.says = some x → x ∈ l
  few : k.kids.length < 256
  kids : ∀ x ∈ k.kids, x.1 ≠ [] ∧ (∃ y ∈ l, ∃ p, p ++ x.1 <+: y.name) ∧ lo ≤ x.2 ∧ x.2 < hi
  apart : k.kids.Pairwise (fun a b => a.1.head? ≠ b.1.head?)
theorem KnotIn.wide {lo hi lo' hi' : Nat} {l l' : List Exp} {k : Knot} (h : KnotIn lo hi l k) (h1 : lo' ≤ lo) (h2 : hi ≤ hi') (hl : ∀ x ∈ l, x ∈ l') : KnotIn lo' hi' l' k :=
  ⟨fun x hx => hl x (h.says x hx), h.few, fun x hx => by
    obtain ⟨a, ⟨y, hy, c⟩, d, e⟩ := h.kids x hx
    exact ⟨a, ⟨y, hl y hy, c⟩, by omega, by omega⟩, h.apart⟩
theorem Fo.refs_apart : ∀ (F : Fo) (p : List UInt8) (i : Nat), F.Ok p → (F.refs i).Pairwise (fun a b => a.1.head? ≠ b.1.head?)
  | .nil, _, _, _ => List.Pairwise.nil
  | .cons e s k n, p, i, h => by
    obtain ⟨he, hs, hap, hK, hn⟩ := h
    rw [Fo.refs]
    refine List.pairwise_cons.2 ⟨fun r hr e => ?_, Fo.refs_apart n p _ hn⟩
    exact hap r.1 (Fo.refs_bound n _ r hr).2.2 e.symm
theorem Fo.ok_edges : ∀ (F : Fo) (p : List UInt8), F.Ok p → ∀ e ∈ F.edges, e ≠ []
  | .nil, _, _, e, h => by simp [Fo.edges] at h
  | .cons e0 s k n, p, hok, e, h => by
    rw [Fo.edges] at h
    rcases List.mem_cons.1 h with rfl | h
    · exact hok.1
    · exact Fo.ok_edges n p hok.2.2.2.2 e h
theorem Tied.root {p : List UInt8} {l : List Exp} {F : Fo} (h : Tied p l F) (hnul : ∀ y ∈ l, nul y.name = y.name.length) (s : Option Exp) (L : List Exp) (i : Nat) (hs : ∀ x, s = some x → x ∈ L) (hl : ∀ x ∈ l, x ∈ L) : KnotIn i (i + F.size) L ⟨s, F.refs i⟩ := by
  refine ⟨hs, ?_, fun x hx => ?_, Fo.refs_apart F p i h.ok⟩
  · rw [Fo.refs_len]
    have := h.few 1 (by omega) (onto_head h.onto hnul)
    omega
  · obtain ⟨h1, h2, h3⟩ := Fo.refs_bound F i x hx
    refine ⟨Fo.ok_edges F p h.ok _ h3, ?_, h1, h2⟩
    obtain ⟨-, -, y, hy, hpre⟩ := h.pre _ (Fo.edges_names F p _ h3)
    exact ⟨y, hl y hy, p, hpre⟩
theorem Tied.knotsIn {p : List UInt8} {l : List Exp} {F : Fo} (h : Tied p l F) : (∀ y ∈ l, nul y.name = y.name.length) → ∀ (i : Nat), ∀ k ∈ F.knots i, KnotIn i (i + F.size) l k := by
  induction h with
  | nil => intro _ i k hk; simp [Fo.knots] at hk
  | cons p q c x g0 rest g1 says K F hc hin hq hout hs hK hF ihK ihF =>
    intro hnul i k hk
    have hg1 : ∀ y ∈ g1, y ∈ x :: g0 ++ rest := by
      intro y hy
      rcases hs with ⟨rfl, -, rfl⟩ | ⟨rfl, -, rfl, -⟩
      · exact List.mem_append_left _ (List.mem_cons_of_mem _ hy)
      · exact List.mem_append_left _ hy
    rw [Fo.knots] at hk
    rw [Fo.size]
    rcases List.mem_cons.1 hk with rfl | hk
    · refine (hK.root (fun y hy => hnul y (hg1 y hy)) says (x :: g0 ++ rest) (i + 1) (fun z hz => ?_) hg1).wide (by omega) (by omega) (fun x hx => hx)
      rcases hs with ⟨rfl, -, rfl⟩ | ⟨rfl, -, rfl, -⟩
      · cases hz; simp
      · cases hz
    · rcases List.mem_append.1 hk with hk | hk
      · exact (ihK (fun y hy => hnul y (hg1 y hy)) (i + 1) k hk).wide (by omega) (by omega) hg1
      · exact (ihF (fun y hy => hnul y (List.mem_append_right _ hy)) (i + 1 + K.size) k hk).wide (by omega) (by omega) (fun x hx => List.mem_append_right _ hx)
theorem allK_in {l : List Exp} {F : Fo} (h : Tied [] l F) (hnul : ∀ y ∈ l, nul y.name = y.name.length) : ∀ k ∈ allK F, KnotIn 0 (F.size + 1) l k := by
  intro k hk
  unfold allK at hk
  rcases List.mem_cons.1 hk with rfl | hk
  · exact (h.root hnul none l 1 (fun x hx => by cases hx) (fun x hx => hx)).wide (by omega) (by omega) (fun x hx => hx)
  · exact (h.knotsIn hnul 1 k hk).wide (by omega) (by omega) (fun x hx => hx)
/-- What was made is told: all of it. -/
theorem made_told {l : List Exp} {F : Fo} {P : List Nat} (h : Tied [] l F) (hg : ∀ y ∈ l, GoodX y) (hl : l.length ≤ 4096) (hne : l ≠ []) (hfix : nextP (allK F) P = P) (hsize : (outB (allK F) P).length ≤ 2 ^ 40) :
    allT (outB (allK F) P) = (0, l) := by
  obtain ⟨b, hb⟩ : ∃ b, b = outB (allK F) P := ⟨_, rfl⟩
  rw [← hb] at hsize ⊢
  have hpl : ∀ j, j < F.size + 1 → P.getD j 0 < b.length := fun j hj => by
    rw [hb]; exact place_in hfix (by rw [allK_len]; exact hj)
  have hok : ∀ k ∈ allK F, KnotOk P b.length k := by
    intro k hk
    have hin := allK_in h (fun y hy => (hg y hy).name3) k hk
    refine ⟨fun x hx => hg x (hin.says x hx), hin.few, fun x hx => ?_, hin.apart⟩
    obtain ⟨h1, ⟨y, hy, p, hp⟩, h2, h3⟩ := hin.kids x hx
    have h4 := nul_drop (nul_prefix (hg y hy).name3 hp) p.length
    rw [List.drop_left] at h4
    have h5 := hp.length_le
    rw [List.length_append] at h5
    have h6 := (hg y hy).name2
    have h7 := hpl x.2 h3
    exact ⟨h1, h4, by omega, h7, by omega⟩
  have hmany := h.many
  have hroots := h.roots_pos hne
  have hex := h.exps
  have hk0 : (allK F)[0]? = some ⟨none, F.refs 1⟩ := rfl
  have hp0 : P.getD 0 0 = 0 := by
    have := nextP_getD (allK F) P (i := 0) (by rw [allK_len]; omega)
    rw [hfix] at this; rw [this]; rfl
  have hread := read_knot (at_ := 0) (r := outB ((allK F).drop 1) P) (hok _ (List.mem_of_getElem? hk0)) (by
    have := drop_place hfix hk0
    rw [hp0, ← hb] at this
    exact this)
  dsimp only at hread
  have hbne : b ≠ [] := by
    have := hpl 0 (by omega)
    intro e; rw [e] at this; simp at this
  unfold allT
  rw [if_neg hbne]
  have htold := told_says none ([] : List UInt8) (fun x hx => by cases hx) (kidsOf P (F.refs 1)) []
  have hgo : downF b 257 0 [] [] ⟨0, []⟩ = (0, ⟨1 + F.size, l⟩) := by
    rw [downF_kids (by simp) (by simp) (by simp) (by omega) (by exact hread) (by rw [htold]; simp), htold]
    have := told_forest hb hfix hok F [] 1 256 ([] ++ [0]) ⟨0 + 1, [] ++ (none : Option Exp).toList⟩ h.ok (fun j k hj => by
      rw [show 1 + j = j + 1 by omega]
      exact hj) (fun z hz => by
        obtain ⟨-, -, y, hy, hz2⟩ := h.pre z hz
        have := hz2.length_le
        have := (hg y hy).name2
        omega) (by simp) (fun x hx => by simp at hx; exact ⟨0, by omega, by rw [hx, hp0]; rfl⟩) (by show 0 + 1 + F.size ≤ 8192; omega) (by rw [hex]; simpa using hl)
    rw [this, hex]
    simp
  rw [hgo]
  simp
end Go.Proofs.YthhjdkcnkdffcaaGreat

namespace Go.Proofs.YthhjdkcnkdffcaaGreat
set_option linter.unusedSimpArgs false
set_option linter.unusedVariables false
open Go.Sort
/-- One round of what is gathered. -/
def roundK (l : List Exp) (i : Nat) : List Exp :=
  nameX (l.getD i Exp.zero).name :: (if 0 < i then [nameX (shareL (l.getD (i - 1) Exp.zero).name (l.getD i Exp.zero).name)] else [])
def setK (l : List Exp) (j : Nat) : List Exp := nameX [] :: (List.range j).flatMap (roundK l)
theorem setK_step (l : List Exp) (j : Nat) : setK l (j + 1) = setK l j ++ roundK l j := by
  unfold setK
  rw [List.range_succ, List.flatMap_append]
  simp
theorem setK_len (l : List Exp) : ∀ j, (setK l j).length ≤ 2 * j + 1
  | 0 => by simp [setK]
  | j + 1 => by
    rw [setK_step, List.length_append]
    have := setK_len l j
    unfold roundK
    split <;> simp <;> omega
theorem shares_mem : ∀ (l : List Exp) (z : List UInt8), z ∈ sharesL l ↔ ∃ i, i + 1 < l.length ∧ z = shareL (l.getD i Exp.zero).name (l.getD (i + 1) Exp.zero).name
  | [], z => by simp [sharesL]
  | [x], z => by simp [sharesL]
  | x :: y :: l, z => by
    rw [sharesL, List.mem_cons, shares_mem (y :: l) z]
    constructor
    · rintro (h | ⟨i, h1, h2⟩)
      · exact ⟨0, by simp, by simpa using h⟩
      · exact ⟨i + 1, by simpa using h1, by simpa using h2⟩
    · rintro ⟨i, h1, h2⟩
      cases i with
      | zero => exact .inl (by simpa using h2)
      | succ i => exact .inr ⟨i, by simpa using h1, by simpa using h2⟩
theorem setK_mem (l : List Exp) (z : List UInt8) : z ∈ (setK l l.length).map Exp.name ↔ z = [] ∨ (∃ y ∈ l, y.name = z) ∨ z ∈ sharesL l := by
  rw [shares_mem]
  simp only [setK, List.map_cons, List.mem_cons, List.mem_map, List.mem_flatMap, List.mem_range]
  constructor
  · rintro (h | ⟨x, ⟨i, hi, hx⟩, hz⟩)
    · exact .inl h
    · unfold roundK at hx
      rcases List.mem_cons.1 hx with h | h
      · refine .inr (.inl ⟨l[i], List.getElem_mem hi, ?_⟩)
        rw [← hz, h]
        show _ = (l.getD i Exp.zero).name
        rw [List.getD_eq_getElem?_getD, List.getElem?_eq_getElem hi]; rfl
      · split at h
        · rename_i h0
          simp at h
          refine .inr (.inr ⟨i - 1, by omega, ?_⟩)
          rw [← hz, h, show i - 1 + 1 = i by omega]
          simp [nameX]
        · simp at h
  · rintro (h | ⟨y, hy, hz⟩ | ⟨i, hi, hz⟩)
    · exact .inl h
    · obtain ⟨i, hi, he⟩ := List.getElem_of_mem hy
      refine .inr ⟨nameX (l.getD i Exp.zero).name, ⟨i, hi, by unfold roundK; simp⟩, ?_⟩
      show (l.getD i Exp.zero).name = z
      rw [List.getD_eq_getElem?_getD, List.getElem?_eq_getElem hi, ← hz, ← he]; rfl
    · refine .inr ⟨nameX (shareL (l.getD i Exp.zero).name (l.getD (i + 1) Exp.zero).name), ⟨i + 1, hi, by unfold roundK; simp⟩, ?_⟩
      exact hz.symm
/-- One more, behind those that were looked at. -/
theorem dedup_snoc : ∀ (l : List (List UInt8)) (x : List UInt8), dedupN (l ++ [x]) = if l.getLast? = some x then dedupN l else dedupN l ++ [x]
  | [], x => by simp [dedupN]
  | [y], x => by
    simp only [List.singleton_append, dedupN, List.getLast?_singleton]
    by_cases h : x = y
    · subst h; simp [dedupN]
    · have h' : ¬ y = x := fun e => h e.symm
      simp [dedupN, h, h']
  | y :: z :: l, x => by
    have ih := dedup_snoc (z :: l) x
    have hl : (y :: z :: l).getLast? = (z :: l).getLast? := by simp [List.getLast?_cons_cons]
    rw [hl]
    show dedupN (y :: z :: (l ++ [x])) = _
    rw [dedupN, dedupN]
    have ih' : dedupN (z :: (l ++ [x])) = if (z :: l).getLast? = some x then dedupN (z :: l) else dedupN (z :: l) ++ [x] := ih
    rw [ih']
    by_cases h : z = y
    · simp [h]
    · simp only [h, if_false]
      split <;> rfl
/-- Those kept of the first so many. -/
theorem dedup_step {T : List (List UInt8)} {j : Nat} {x : List UInt8} (hx : T[j]? = some x) :
    dedupN (T.take (j + 1)) = if j = 0 then [x] else if T[j - 1]? = some x then dedupN (T.take j) else dedupN (T.take j) ++ [x] := by
  rw [take_snoc hx, dedup_snoc]
  by_cases h0 : j = 0
  · subst h0; simp [dedupN]
  · have hlt := (List.getElem?_eq_some_iff.1 hx).1
    have hl : (T.take j).getLast? = T[j - 1]? := by
      rw [List.getLast?_eq_getElem?, List.length_take, Nat.min_eq_left (by omega), List.getElem?_take, if_pos (by omega)]
    rw [hl, if_neg h0]
/-- The nodes' names, as the reference has them. -/
def knotsR (f : Nat) (l : List Exp) : List (List UInt8) := dedupN ((sortedR f (setK l l.length)).map Exp.name)
theorem knotsR_is {f : Nat} {l : List Exp} {F : Fo} (h : Tied [] l F) (hf : (setK l l.length).length ≤ f + 1) : knotsR f l = allN F := by
  unfold knotsR
  refine names_are h ((setK l l.length).map Exp.name) _ (setK_mem l) ((sortedR_perm f _).map _) ?_
  have := sortedR_sorted f (setK l l.length) hf
  rw [List.pairwise_map]
  refine this.imp fun {a b} hab => ?_
  unfold nameLe at hab
  simpa using hab
end Go.Proofs.YthhjdkcnkdffcaaGreat
