/- Pieces of memory and their bytes, one by one: plain. -/
import Derived.Test.YtjfkgdfmkofbmaaGreatDoorZPlain
namespace Go.Proofs.YtjfkgdfmkofbmaaGreatDoor
set_option linter.unusedSimpArgs false
set_option linter.unusedVariables false

structure Pz where
  at_ : Nat
  prot : Int
  bytes : List UInt8
structure Cz where
  at_ : Nat
  prot : Int
  b : UInt8
deriving DecidableEq

def Pz.end_ (p : Pz) : Nat := p.at_ + p.bytes.length
def cellsAt (q : Int) : Nat → List UInt8 → List Cz
  | _, [] => []
  | a, b :: l => ⟨a, q, b⟩ :: cellsAt q (a + 1) l
def Pz.cells (p : Pz) : List Cz := cellsAt p.prot p.at_ p.bytes
def cellsZ (l : List Pz) : List Cz := l.flatMap Pz.cells

theorem cellsAt_append (q : Int) : ∀ (a : Nat) (l m : List UInt8), cellsAt q a (l ++ m) = cellsAt q a l ++ cellsAt q (a + l.length) m
  | a, [], m => rfl
  | a, b :: l, m => by
    rw [List.cons_append, cellsAt, cellsAt, cellsAt_append q (a + 1) l m, List.length_cons, List.cons_append, Nat.add_assoc, Nat.add_comm 1]
theorem cellsAt_length (q : Int) : ∀ (a : Nat) (l : List UInt8), (cellsAt q a l).length = l.length
  | a, [] => rfl
  | a, b :: l => by rw [cellsAt, List.length_cons, cellsAt_length q (a + 1) l, List.length_cons]
theorem cellsAt_get (q : Int) : ∀ (a : Nat) (l : List UInt8) (k : Nat) (b : UInt8), l[k]? = some b → (cellsAt q a l)[k]? = some ⟨a + k, q, b⟩
  | a, [], k, b, h => by simp at h
  | a, x :: l, 0, b, h => by simp at h; subst h; rfl
  | a, x :: l, k + 1, b, h => by
    rw [cellsAt, List.getElem?_cons_succ, cellsAt_get q (a + 1) l k b (by simpa using h), Nat.add_assoc, Nat.add_comm 1]
theorem mem_cellsAt {q : Int} : ∀ {a : Nat} {l : List UInt8} {c : Cz}, c ∈ cellsAt q a l → a ≤ c.at_ ∧ c.at_ < a + l.length ∧ c.prot = q
  | a, [], c, h => by simp [cellsAt] at h
  | a, x :: l, c, h => by
    rw [cellsAt] at h
    rcases List.mem_cons.1 h with rfl | h
    · exact ⟨Nat.le_refl _, by simp, rfl⟩
    · obtain ⟨h1, h2, h3⟩ := mem_cellsAt h
      exact ⟨by omega, by rw [List.length_cons]; omega, h3⟩

/-- One byte more. -/
def pushC (out : List Pz) (c : Cz) : List Pz :=
  match out.getLast? with
  | none => [⟨c.at_, c.prot, [c.b]⟩]
  | some q => if q.end_ = c.at_ ∧ q.prot = c.prot then out.dropLast ++ [⟨q.at_, q.prot, q.bytes ++ [c.b]⟩] else out ++ [⟨c.at_, c.prot, [c.b]⟩]
def piecesZ (l : List Cz) : List Pz := l.foldl pushC []
/-- Bytes more. -/
def putP (out : List Pz) (a : Nat) (q : Int) (bs : List UInt8) : List Pz :=
  match out.getLast? with
  | none => [⟨a, q, bs⟩]
  | some p => if p.end_ = a ∧ p.prot = q then out.dropLast ++ [⟨p.at_, p.prot, p.bytes ++ bs⟩] else out ++ [⟨a, q, bs⟩]

theorem last_cases (out : List Pz) : out = [] ∨ ∃ l p, out = l ++ [p] := by
  rcases List.eq_nil_or_concat out with h | ⟨l, p, h⟩
  · exact .inl h
  · exact .inr ⟨l, p, by rw [h]; simp⟩
theorem putP_nil (a : Nat) (q : Int) (bs : List UInt8) : putP [] a q bs = [⟨a, q, bs⟩] := rfl
theorem putP_snoc (l : List Pz) (p : Pz) (a : Nat) (q : Int) (bs : List UInt8) : putP (l ++ [p]) a q bs = if p.end_ = a ∧ p.prot = q then l ++ [⟨p.at_, p.prot, p.bytes ++ bs⟩] else l ++ [p] ++ [⟨a, q, bs⟩] := by
  unfold putP
  simp
theorem pushC_put (out : List Pz) (c : Cz) : pushC out c = putP out c.at_ c.prot [c.b] := rfl
theorem putP_put (out : List Pz) (a : Nat) (q : Int) (b : UInt8) (bs : List UInt8) : putP (putP out a q [b]) (a + 1) q bs = putP out a q (b :: bs) := by
  rcases last_cases out with rfl | ⟨l, p, rfl⟩
  · rw [putP_nil, putP_nil, show ([⟨a, q, [b]⟩] : List Pz) = [] ++ [⟨a, q, [b]⟩] from rfl, putP_snoc, if_pos ⟨rfl, rfl⟩]
    rfl
  · rw [putP_snoc, putP_snoc]
    by_cases h : p.end_ = a ∧ p.prot = q
    · rw [if_pos h, if_pos h, putP_snoc, if_pos ⟨by have := h.1; simp only [Pz.end_] at this ⊢; simp; omega, h.2⟩]
      simp
    · rw [if_neg h, if_neg h, putP_snoc, if_pos ⟨rfl, rfl⟩]
      rfl
theorem putP_cells : ∀ (bs : List UInt8) (out : List Pz) (a : Nat) (q : Int), bs ≠ [] → putP out a q bs = (cellsAt q a bs).foldl pushC out
  | [], out, a, q, h => absurd rfl h
  | [b], out, a, q, h => rfl
  | b :: b2 :: bs, out, a, q, h => by
    rw [cellsAt, List.foldl_cons, pushC_put, ← putP_cells (b2 :: bs) _ (a + 1) q (by simp), putP_put]
theorem foldl_put (l : List Pz) (h : ∀ p ∈ l, p.bytes ≠ []) (out : List Pz) : l.foldl (fun o p => putP o p.at_ p.prot p.bytes) out = (cellsZ l).foldl pushC out := by
  induction l generalizing out with
  | nil => rfl
  | cons p l ih =>
    have e : cellsZ (p :: l) = p.cells ++ cellsZ l := rfl
    rw [List.foldl_cons, ih (fun x hx => h x (List.mem_cons_of_mem _ hx)), e, List.foldl_append, putP_cells _ _ _ _ (h p List.mem_cons_self)]
    rfl

/-- Which pieces may be. -/
def MAXA : Nat := 140737488355328
def mayFrom : Nat → List Pz → Bool
  | _, [] => true
  | last, p :: l => decide (0 < p.bytes.length) && decide (1 ≤ p.prot) && decide (p.prot ≤ 7) && decide (last ≤ p.at_) && decide (p.at_ ≤ MAXA) && decide (p.end_ ≤ MAXA) && mayFrom p.end_ l
def mayZ (l : List Pz) : Bool := mayFrom 0 l

/-- Pieces in order, none empty. -/
inductive Srt : Nat → List Pz → Prop
  | nil (n : Nat) : Srt n []
  | cons {n : Nat} {p : Pz} {l : List Pz} (h1 : p.bytes ≠ []) (h2 : 1 ≤ p.prot) (h3 : n ≤ p.at_) (h4 : p.end_ ≤ MAXA) (h : Srt p.end_ l) : Srt n (p :: l)
theorem srt_of_may : ∀ {l : List Pz} {n : Nat}, mayFrom n l = true → Srt n l
  | [], n, _ => .nil n
  | p :: l, n, h => by
    rw [mayFrom] at h
    simp only [Bool.and_eq_true, decide_eq_true_eq] at h
    obtain ⟨⟨⟨⟨⟨⟨h1, h2⟩, h3⟩, h4⟩, h5⟩, h6⟩, h7⟩ := h
    exact .cons (List.ne_nil_of_length_pos h1) h2 h4 h6 (srt_of_may h7)
theorem Srt.mono {n m : Nat} {l : List Pz} (h : Srt n l) (hm : m ≤ n) : Srt m l := by
  cases h with
  | nil => exact .nil m
  | cons h1 h2 h3 h4 h => exact .cons h1 h2 (Nat.le_trans hm h3) h4 h

/-- Bytes by rising addresses. -/
def Up (l : List Cz) : Prop := l.Pairwise (fun x y => x.at_ < y.at_)
theorem up_cellsAt (q : Int) : ∀ (a : Nat) (l : List UInt8), Up (cellsAt q a l)
  | a, [] => List.Pairwise.nil
  | a, b :: l => by
    rw [cellsAt]
    refine List.Pairwise.cons (fun c hc => ?_) (up_cellsAt q (a + 1) l)
    have := (mem_cellsAt hc).1
    show a < c.at_
    omega
theorem Srt.lows {n : Nat} {l : List Pz} (h : Srt n l) : ∀ c ∈ cellsZ l, n ≤ c.at_ ∧ c.at_ < MAXA ∧ 1 ≤ c.prot := by
  induction h with
  | nil n => intro c hc; simp [cellsZ] at hc
  | @cons n p l h1 h2 h3 h4 h ih =>
    intro c hc
    rw [cellsZ, List.flatMap_cons] at hc
    rcases List.mem_append.1 hc with hc | hc
    · obtain ⟨g1, g2, g3⟩ := mem_cellsAt hc
      unfold Pz.end_ at h4
      exact ⟨by omega, by omega, by omega⟩
    · obtain ⟨g1, g2, g3⟩ := ih c hc
      unfold Pz.end_ at g1
      exact ⟨by omega, g2, g3⟩
theorem Srt.up {n : Nat} {l : List Pz} (h : Srt n l) : Up (cellsZ l) := by
  induction h with
  | nil n => exact List.Pairwise.nil
  | @cons n p l h1 h2 h3 h4 h ih =>
    rw [cellsZ, List.flatMap_cons]
    refine List.pairwise_append.2 ⟨up_cellsAt _ _ _, ih, fun c hc d hd => ?_⟩
    have g1 := (mem_cellsAt hc).2.1
    have g2 := (h.lows d hd).1
    unfold Pz.end_ at g2
    omega

/-- The protection at an address; 0: nothing is there. -/
def protAt (l : List Cz) (a : Nat) : Int := match l.find? (fun c => c.at_ == a) with
  | some c => c.prot
  | none => 0
def byteAt (l : List Cz) (a : Nat) : Option UInt8 := (l.find? (fun c => c.at_ == a)).map Cz.b
theorem up_find {l : List Cz} (h : Up l) {c : Cz} (hc : c ∈ l) : l.find? (fun x => x.at_ == c.at_) = some c := by
  induction l with
  | nil => cases hc
  | cons d l ih =>
    rw [List.find?_cons]
    rcases List.mem_cons.1 hc with rfl | hm
    · simp
    · have hd : d.at_ < c.at_ := List.rel_of_pairwise_cons h hm
      rw [show (d.at_ == c.at_) = false by simp; omega]
      exact ih (List.Pairwise.of_cons h) hm
theorem protAt_mem {l : List Cz} (h : Up l) {c : Cz} (hc : c ∈ l) : protAt l c.at_ = c.prot := by unfold protAt; rw [up_find h hc]
theorem byteAt_mem {l : List Cz} (h : Up l) {c : Cz} (hc : c ∈ l) : byteAt l c.at_ = some c.b := by unfold byteAt; rw [up_find h hc]; rfl
theorem protAt_none {l : List Cz} {a : Nat} (h : ∀ c ∈ l, c.at_ ≠ a) : protAt l a = 0 := by
  unfold protAt
  rw [List.find?_eq_none.2 (fun c hc => by simpa using h c hc)]
theorem byteAt_none {l : List Cz} {a : Nat} (h : ∀ c ∈ l, c.at_ ≠ a) : byteAt l a = none := by
  unfold byteAt
  rw [List.find?_eq_none.2 (fun c hc => by simpa using h c hc)]
  rfl
end Go.Proofs.YtjfkgdfmkofbmaaGreatDoor

namespace Go.Proofs.YtjfkgdfmkofbmaaGreatDoor
set_option linter.unusedSimpArgs false
set_option linter.unusedVariables false

/-- Rising lists with the same members are the same. -/
theorem up_ext : ∀ {l m : List Cz}, Up l → Up m → (∀ c, c ∈ l ↔ c ∈ m) → l = m
  | [], [], _, _, _ => rfl
  | [], d :: m, _, _, h => absurd ((h d).2 List.mem_cons_self) (by simp)
  | c :: l, [], _, _, h => absurd ((h c).1 List.mem_cons_self) (by simp)
  | c :: l, d :: m, hl, hm, h => by
    have key : c = d := by
      have h1 := (h c).1 List.mem_cons_self
      have h2 := (h d).2 List.mem_cons_self
      rcases List.mem_cons.1 h1 with e | h1
      · exact e
      · rcases List.mem_cons.1 h2 with e | h2
        · exact e.symm
        · have a1 : d.at_ < c.at_ := List.rel_of_pairwise_cons hm h1
          have a2 : c.at_ < d.at_ := List.rel_of_pairwise_cons hl h2
          omega
    subst key
    rw [up_ext (List.Pairwise.of_cons hl) (List.Pairwise.of_cons hm) (fun x => ?_)]
    have hx := h x
    constructor
    · intro hxl
      rcases List.mem_cons.1 (hx.1 (List.mem_cons_of_mem _ hxl)) with e | g
      · subst e
        have : x.at_ < x.at_ := List.rel_of_pairwise_cons hl hxl
        omega
      · exact g
    · intro hxm
      rcases List.mem_cons.1 (hx.2 (List.mem_cons_of_mem _ hxm)) with e | g
      · subst e
        have : x.at_ < x.at_ := List.rel_of_pairwise_cons hm hxm
        omega
      · exact g

/-- Those between two addresses. -/
def win (f t : Nat) (l : List Cz) : List Cz := l.filter (fun c => decide (f ≤ c.at_) && decide (c.at_ < t))
theorem mem_win {f t : Nat} {l : List Cz} {c : Cz} : c ∈ win f t l ↔ c ∈ l ∧ f ≤ c.at_ ∧ c.at_ < t := by
  unfold win; rw [List.mem_filter]; simp
theorem win_none {f t : Nat} {l : List Cz} (h : ∀ c ∈ l, ¬ (f ≤ c.at_ ∧ c.at_ < t)) : win f t l = [] := by
  unfold win
  rw [List.filter_eq_nil_iff]
  intro c hc
  have := h c hc
  simpa using this
theorem win_all {f t : Nat} {l : List Cz} (h : ∀ c ∈ l, f ≤ c.at_ ∧ c.at_ < t) : win f t l = l := by
  unfold win
  rw [List.filter_eq_self]
  intro c hc
  have := h c hc
  simpa using this
theorem win_append (f t : Nat) (l m : List Cz) : win f t (l ++ m) = win f t l ++ win f t m := by unfold win; exact List.filter_append ..
theorem win_cellsAt (q : Int) (a f t : Nat) (l : List UInt8) (h1 : a ≤ f) (h2 : f ≤ t) (h3 : t ≤ a + l.length) : win f t (cellsAt q a l) = cellsAt q f ((l.drop (f - a)).take (t - f)) := by
  have e1 : l = l.take (f - a) ++ ((l.drop (f - a)).take (t - f) ++ (l.drop (f - a)).drop (t - f)) := by rw [List.take_append_drop, List.take_append_drop]
  have n1 : (l.take (f - a)).length = f - a := by rw [List.length_take]; omega
  have n2 : ((l.drop (f - a)).take (t - f)).length = t - f := by rw [List.length_take, List.length_drop]; omega
  have e2 : cellsAt q a l = cellsAt q a (l.take (f - a)) ++ (cellsAt q f ((l.drop (f - a)).take (t - f)) ++ cellsAt q t ((l.drop (f - a)).drop (t - f))) := by
    conv => lhs; rw [e1]
    rw [cellsAt_append, cellsAt_append, n1, n2, show a + (f - a) = f by omega, show f + (t - f) = t by omega]
  rw [e2, win_append, win_append, win_none (l := cellsAt q a _) (fun c hc => by have := (mem_cellsAt hc).2.1; rw [n1] at this; omega),
    win_all (fun c hc => by have := mem_cellsAt hc; rw [n2] at this; omega), win_none (l := cellsAt q t _) (fun c hc => by have := (mem_cellsAt hc).1; omega)]
  simp

/-- What pieces have between two addresses. -/
def cutZ (l : List Pz) (f t : Nat) : List UInt8 × Int :=
  match l.find? (fun p => decide (p.at_ ≤ f) && decide (f < p.end_)) with
  | some p => ((p.bytes.drop (f - p.at_)).take (t - f), p.prot)
  | none => ([], 0)
def endsZ (l : List Pz) : List Nat := l.flatMap (fun p => [p.at_, p.end_])
def NoIn (l : List Pz) (f t : Nat) : Prop := ∀ e ∈ endsZ l, ¬ (f < e ∧ e < t)
theorem NoIn.tail {p : Pz} {l : List Pz} {f t : Nat} (h : NoIn (p :: l) f t) : NoIn l f t := fun e he => h e (by unfold endsZ at he ⊢; rw [List.flatMap_cons]; exact List.mem_append_right _ he)
theorem NoIn.head {p : Pz} {l : List Pz} {f t : Nat} (h : NoIn (p :: l) f t) : ¬ (f < p.at_ ∧ p.at_ < t) ∧ ¬ (f < p.end_ ∧ p.end_ < t) :=
  ⟨h _ (by unfold endsZ; rw [List.flatMap_cons]; simp), h _ (by unfold endsZ; rw [List.flatMap_cons]; simp)⟩
theorem cut_none {l : List Pz} {f t : Nat} (h : ∀ p ∈ l, ¬ (p.at_ ≤ f ∧ f < p.end_)) : cutZ l f t = ([], 0) := by
  unfold cutZ
  rw [List.find?_eq_none.2 (fun p hp => by have := h p hp; simpa using this)]
theorem Srt.at_le {n : Nat} {l : List Pz} (h : Srt n l) : ∀ p ∈ l, n ≤ p.at_ ∧ p.end_ ≤ MAXA ∧ p.bytes ≠ [] ∧ 1 ≤ p.prot := by
  induction h with
  | nil n => intro p hp; cases hp
  | @cons n p l h1 h2 h3 h4 h ih =>
    intro x hx
    rcases List.mem_cons.1 hx with rfl | hx
    · exact ⟨h3, h4, h1, h2⟩
    · obtain ⟨g1, g2, g3⟩ := ih x hx
      unfold Pz.end_ at g1
      exact ⟨by omega, g2, g3⟩
theorem cut_win {n : Nat} {l : List Pz} (h : Srt n l) {f t : Nat} (hft : f < t) (hno : NoIn l f t) :
    win f t (cellsZ l) = cellsAt (cutZ l f t).2 f (cutZ l f t).1 ∧ (((cutZ l f t).2 = 0 ∧ (cutZ l f t).1 = []) ∨ (1 ≤ (cutZ l f t).2 ∧ (cutZ l f t).1.length = t - f)) := by
  induction h with
  | nil n => exact ⟨rfl, .inl ⟨rfl, rfl⟩⟩
  | @cons n p l h1 h2 h3 h4 h ih =>
    have ih := ih hno.tail
    obtain ⟨g1, g2⟩ := hno.head
    have hlen := List.length_pos_iff.2 h1
    have e : cellsZ (p :: l) = p.cells ++ cellsZ l := rfl
    rw [e, win_append]
    by_cases c1 : p.end_ ≤ f
    · have ec : cutZ (p :: l) f t = cutZ l f t := by
        unfold cutZ
        rw [List.find?_cons, show (decide (p.at_ ≤ f) && decide (f < p.end_)) = false by rw [decide_eq_false (by omega : ¬ f < p.end_), Bool.and_false]]
      rw [ec, win_none (l := p.cells) (fun c hc => by have := (mem_cellsAt hc).2.1; unfold Pz.end_ at c1; omega), List.nil_append]
      exact ih
    · by_cases c2 : p.at_ ≤ f
      · have ec : cutZ (p :: l) f t = ((p.bytes.drop (f - p.at_)).take (t - f), p.prot) := by
          unfold cutZ
          rw [List.find?_cons, show (decide (p.at_ ≤ f) && decide (f < p.end_)) = true by rw [decide_eq_true (by omega : f < p.end_), decide_eq_true c2]; rfl]
        have ht : t ≤ p.at_ + p.bytes.length := by unfold Pz.end_ at g2 c1; omega
        rw [ec]
        refine ⟨?_, .inr ⟨h2, ?_⟩⟩
        · rw [show p.cells = cellsAt p.prot p.at_ p.bytes from rfl, win_cellsAt _ _ _ _ _ c2 (by omega) ht, win_none (l := cellsZ l) (fun c hc => by have := (h.lows c hc).1; unfold Pz.end_ at this; omega), List.append_nil]
        · show ((p.bytes.drop (f - p.at_)).take (t - f)).length = t - f
          rw [List.length_take, List.length_drop]; omega
      · have ha : t ≤ p.at_ := by omega
        have ec : cutZ (p :: l) f t = ([], 0) := cut_none (fun x hx => by
          rcases List.mem_cons.1 hx with rfl | hx
          · omega
          · have := (h.at_le x hx).1; unfold Pz.end_ at this; omega)
        rw [ec]
        refine ⟨?_, .inl ⟨rfl, rfl⟩⟩
        rw [win_none (l := p.cells) (fun c hc => by have := (mem_cellsAt hc).1; omega), win_none (l := cellsZ l) (fun c hc => by have := (h.lows c hc).1; unfold Pz.end_ at this; omega)]
        rfl

/-- What stands at each address between. -/
theorem cut_prot {n : Nat} {l : List Pz} (h : Srt n l) {f t : Nat} (hft : f < t) (hno : NoIn l f t) {a : Nat} (h1 : f ≤ a) (h2 : a < t) : protAt (cellsZ l) a = (cutZ l f t).2 ∧ byteAt (cellsZ l) a = (cutZ l f t).1[a - f]? := by
  obtain ⟨hw, hc⟩ := cut_win h hft hno
  rcases hc with ⟨c1, c2⟩ | ⟨c1, c2⟩
  · rw [c1, c2] at hw ⊢
    have hn : ∀ c ∈ cellsZ l, c.at_ ≠ a := fun c hc e => by
      have : c ∈ win f t (cellsZ l) := mem_win.2 ⟨hc, by omega, by omega⟩
      rw [hw] at this; cases this
    exact ⟨protAt_none hn, by rw [byteAt_none hn]; rfl⟩
  · obtain ⟨b, hb⟩ : ∃ b, (cutZ l f t).1[a - f]? = some b := ⟨_, List.getElem?_eq_getElem (by omega)⟩
    have hg := cellsAt_get (cutZ l f t).2 f _ _ _ hb
    rw [← hw] at hg
    have hm := (mem_win.1 (List.mem_of_getElem? hg)).1
    have e : f + (a - f) = a := by omega
    rw [e] at hm
    exact ⟨(protAt_mem h.up hm), by rw [hb]; exact byteAt_mem h.up hm⟩

def pairsZ : List Nat → List (Nat × Nat)
  | x :: y :: l => (x, y) :: pairsZ (y :: l)
  | _ => []
/-- The places, rising, where a or b begin or end. -/
structure Bnds (bs : List Nat) (a b : List Pz) : Prop where
  up : bs.Pairwise (· < ·)
  mem : ∀ e, e ∈ bs ↔ e ∈ endsZ a ∨ e ∈ endsZ b

theorem pairs_props : ∀ {bs : List Nat}, bs.Pairwise (· < ·) → ∀ x ∈ pairsZ bs, x.1 < x.2 ∧ ∀ e ∈ bs, ¬ (x.1 < e ∧ e < x.2)
  | [], _, x, hx => by cases hx
  | [_], _, x, hx => by cases hx
  | f :: t :: l, h, x, hx => by
    rw [pairsZ] at hx
    have hft : f < t := List.rel_of_pairwise_cons h List.mem_cons_self
    have h' := List.Pairwise.of_cons h
    rcases List.mem_cons.1 hx with rfl | hx2
    · refine ⟨hft, fun e he => ?_⟩
      rcases List.mem_cons.1 he with rfl | he
      · simp
      · rcases List.mem_cons.1 he with rfl | he
        · simp
        · have : t < e := List.rel_of_pairwise_cons h' he
          simp; omega
    · obtain ⟨g1, g2⟩ := pairs_props h' x hx2
      refine ⟨g1, fun e he => ?_⟩
      rcases List.mem_cons.1 he with rfl | he
      · have hge : t ≤ x.1 := by
          have hx1 : x.1 ∈ t :: l := by
            clear g1 g2 h h' hft he
            have gen : ∀ (l : List Nat) (x : Nat × Nat), x ∈ pairsZ l → x.1 ∈ l := by
              intro l
              induction l with
              | nil => intro x hx; cases hx
              | cons y l ih =>
                intro x hx
                cases l with
                | nil => cases hx
                | cons z l =>
                  rw [pairsZ] at hx
                  rcases List.mem_cons.1 hx with rfl | hx
                  · exact List.mem_cons_self
                  · exact List.mem_cons_of_mem _ (ih x hx)
            exact gen _ x hx2
          rcases List.mem_cons.1 hx1 with e | hx1
          · omega
          · exact Nat.le_of_lt (List.rel_of_pairwise_cons h' hx1)
        omega
      · exact g2 e he
theorem Bnds.noIn {bs : List Nat} {a b : List Pz} (h : Bnds bs a b) {x : Nat × Nat} (hx : x ∈ pairsZ bs) : x.1 < x.2 ∧ NoIn a x.1 x.2 ∧ NoIn b x.1 x.2 := by
  obtain ⟨h1, h2⟩ := pairs_props h.up x hx
  exact ⟨h1, fun e he => h2 e ((h.mem e).2 (.inl he)), fun e he => h2 e ((h.mem e).2 (.inr he))⟩

/-- Each byte lies in one window. -/
theorem cover : ∀ {bs : List Nat} {c : Nat} {lo hi : Nat}, lo ∈ bs → hi ∈ bs → bs.Pairwise (· < ·) → lo ≤ c → c < hi → ∃ x ∈ pairsZ bs, x.1 ≤ c ∧ c < x.2
  | [], c, lo, hi, h1, _, _, _, _ => by cases h1
  | [f], c, lo, hi, h1, h2, _, h3, h4 => by
    rw [List.mem_singleton] at h1 h2
    omega
  | f :: t :: l, c, lo, hi, h1, h2, h, h3, h4 => by
    by_cases hc : c < t
    · refine ⟨(f, t), by rw [pairsZ]; exact List.mem_cons_self, ?_, hc⟩
      rcases List.mem_cons.1 h1 with rfl | h1
      · exact h3
      · have : t ≤ lo := by
          rcases List.mem_cons.1 h1 with rfl | h1
          · exact Nat.le_refl _
          · exact Nat.le_of_lt (List.rel_of_pairwise_cons (List.Pairwise.of_cons h) h1)
        omega
    · have h2' : hi ∈ t :: l := by
        rcases List.mem_cons.1 h2 with rfl | h2
        · have : hi < t := List.rel_of_pairwise_cons h List.mem_cons_self
          omega
        · exact h2
      obtain ⟨x, hx, g⟩ := cover (lo := t) (hi := hi) (c := c) List.mem_cons_self h2' (List.Pairwise.of_cons h) (by omega) h4
      exact ⟨x, by rw [pairsZ]; exact List.mem_cons_of_mem _ hx, g⟩
theorem mem_cellsZ {l : List Pz} {c : Cz} (h : c ∈ cellsZ l) : ∃ p ∈ l, p.at_ ≤ c.at_ ∧ c.at_ < p.end_ := by
  obtain ⟨p, hp, hc⟩ := List.mem_flatMap.1 h
  have := mem_cellsAt hc
  exact ⟨p, hp, this.1, this.2.1⟩
theorem Bnds.cover {bs : List Nat} {a b : List Pz} (h : Bnds bs a b) {c : Cz} (hc : c ∈ cellsZ a ∨ c ∈ cellsZ b) : ∃ x ∈ pairsZ bs, x.1 ≤ c.at_ ∧ c.at_ < x.2 := by
  have key : ∀ l : List Pz, (∀ e ∈ endsZ l, e ∈ bs) → c ∈ cellsZ l → ∃ x ∈ pairsZ bs, x.1 ≤ c.at_ ∧ c.at_ < x.2 := by
    intro l hl hc
    obtain ⟨p, hp, h1, h2⟩ := mem_cellsZ hc
    exact Go.Proofs.YtjfkgdfmkofbmaaGreatDoor.cover (hl _ (List.mem_flatMap.2 ⟨p, hp, by simp⟩)) (hl _ (List.mem_flatMap.2 ⟨p, hp, by simp⟩)) h.up h1 h2
  rcases hc with hc | hc
  · exact key a (fun e he => (h.mem e).2 (.inl he)) hc
  · exact key b (fun e he => (h.mem e).2 (.inr he)) hc
/-- Windows follow one another. -/
theorem pairs_up : ∀ {bs : List Nat}, bs.Pairwise (· < ·) → (pairsZ bs).Pairwise (fun x y => x.2 ≤ y.1)
  | [], _ => List.Pairwise.nil
  | [_], _ => List.Pairwise.nil
  | f :: t :: l, h => by
    rw [pairsZ]
    refine List.Pairwise.cons (fun y hy => ?_) (pairs_up (List.Pairwise.of_cons h))
    have gen : ∀ (l : List Nat) (x : Nat × Nat), x ∈ pairsZ l → x.1 ∈ l := by
      intro l
      induction l with
      | nil => intro x hx; cases hx
      | cons y l ih =>
        intro x hx
        cases l with
        | nil => cases hx
        | cons z l =>
          rw [pairsZ] at hx
          rcases List.mem_cons.1 hx with rfl | hx
          · exact List.mem_cons_self
          · exact List.mem_cons_of_mem _ (ih x hx)
    rcases List.mem_cons.1 (gen _ y hy) with e | hy1
    · show t ≤ y.1; omega
    · exact Nat.le_of_lt (List.rel_of_pairwise_cons (List.Pairwise.of_cons h) hy1)
end Go.Proofs.YtjfkgdfmkofbmaaGreatDoor

namespace Go.Proofs.YtjfkgdfmkofbmaaGreatDoor
set_option linter.unusedSimpArgs false
set_option linter.unusedVariables false

/-- A byte that is another one. -/
structure Dz where
  at_ : Nat
  old : UInt8
  new : UInt8
deriving DecidableEq
def UpD (l : List Dz) : Prop := l.Pairwise (fun x y => x.at_ < y.at_)
theorem upD_ext : ∀ {l m : List Dz}, UpD l → UpD m → (∀ c, c ∈ l ↔ c ∈ m) → l = m
  | [], [], _, _, _ => rfl
  | [], d :: m, _, _, h => absurd ((h d).2 List.mem_cons_self) (by simp)
  | c :: l, [], _, _, h => absurd ((h c).1 List.mem_cons_self) (by simp)
  | c :: l, d :: m, hl, hm, h => by
    have key : c = d := by
      have h1 := (h c).1 List.mem_cons_self
      have h2 := (h d).2 List.mem_cons_self
      rcases List.mem_cons.1 h1 with e | h1
      · exact e
      · rcases List.mem_cons.1 h2 with e | h2
        · exact e.symm
        · have a1 : d.at_ < c.at_ := List.rel_of_pairwise_cons hm h1
          have a2 : c.at_ < d.at_ := List.rel_of_pairwise_cons hl h2
          omega
    subst key
    rw [upD_ext (List.Pairwise.of_cons hl) (List.Pairwise.of_cons hm) (fun x => ?_)]
    have hx := h x
    constructor
    · intro hxl
      rcases List.mem_cons.1 (hx.1 (List.mem_cons_of_mem _ hxl)) with e | g
      · subst e
        have : x.at_ < x.at_ := List.rel_of_pairwise_cons hl hxl
        omega
      · exact g
    · intro hxm
      rcases List.mem_cons.1 (hx.2 (List.mem_cons_of_mem _ hxm)) with e | g
      · subst e
        have : x.at_ < x.at_ := List.rel_of_pairwise_cons hm hxm
        omega
      · exact g

/-- What two memories have from an address on. -/
structure Pt where
  at_ : Nat
  a : List UInt8
  b : List UInt8
  p : Int
  q : Int
def ptOf (a b : List Pz) (x : Nat × Nat) : Pt := ⟨x.1, (cutZ a x.1 x.2).1, (cutZ b x.1 x.2).1, (cutZ a x.1 x.2).2, (cutZ b x.1 x.2).2⟩
def partsZ (a b : List Pz) (bs : List Nat) : List Pt := ((pairsZ bs).map (ptOf a b)).filter (fun x => decide (0 < x.p + x.q))

/-- What each window holds. -/
structure PtOk (A B : List Cz) (x : Nat × Nat) (r : Pt) : Prop where
  at_ : r.at_ = x.1
  lt : x.1 < x.2
  wa : win x.1 x.2 A = cellsAt r.p r.at_ r.a
  wb : win x.1 x.2 B = cellsAt r.q r.at_ r.b
  ca : (r.p = 0 ∧ r.a = []) ∨ (1 ≤ r.p ∧ r.a.length = x.2 - x.1)
  cb : (r.q = 0 ∧ r.b = []) ∨ (1 ≤ r.q ∧ r.b.length = x.2 - x.1)
  pa : ∀ t, x.1 ≤ t → t < x.2 → protAt A t = r.p ∧ byteAt A t = r.a[t - x.1]?
  pb : ∀ t, x.1 ≤ t → t < x.2 → protAt B t = r.q ∧ byteAt B t = r.b[t - x.1]?
theorem ptOf_ok {a b : List Pz} {bs : List Nat} (ha : Srt 0 a) (hb : Srt 0 b) (h : Bnds bs a b) {x : Nat × Nat} (hx : x ∈ pairsZ bs) : PtOk (cellsZ a) (cellsZ b) x (ptOf a b x) := by
  obtain ⟨h1, h2, h3⟩ := h.noIn hx
  obtain ⟨a1, a2⟩ := cut_win ha h1 h2
  obtain ⟨b1, b2⟩ := cut_win hb h1 h3
  exact ⟨rfl, h1, a1, b1, a2, b2, fun t ht1 ht2 => cut_prot ha h1 h2 ht1 ht2, fun t ht1 ht2 => cut_prot hb h1 h3 ht1 ht2⟩

/-- Bytes that are told window by window. -/
theorem parts_cells {a b : List Pz} {bs : List Nat} (ha : Srt 0 a) (hb : Srt 0 b) (h : Bnds bs a b) (g : Pt → List Cz) (T : Cz → Prop)
    (hg : ∀ x r, PtOk (cellsZ a) (cellsZ b) x r → Up (g r) ∧ ∀ c, c ∈ g r ↔ x.1 ≤ c.at_ ∧ c.at_ < x.2 ∧ T c)
    (hT : ∀ c, T c → ∃ d, (d ∈ cellsZ a ∨ d ∈ cellsZ b) ∧ d.at_ = c.at_) : Up ((partsZ a b bs).flatMap g) ∧ ∀ c, c ∈ (partsZ a b bs).flatMap g ↔ T c := by
  have gz : ∀ x ∈ pairsZ bs, ¬ 0 < (ptOf a b x).p + (ptOf a b x).q → g (ptOf a b x) = [] := by
    intro x hx hn
    have ok := ptOf_ok ha hb h hx
    obtain ⟨-, hm⟩ := hg x _ ok
    refine List.eq_nil_iff_forall_not_mem.2 fun c hc => ?_
    obtain ⟨h1, h2, h3⟩ := (hm c).1 hc
    obtain ⟨d, hd, he⟩ := hT c h3
    rcases hd with hd | hd
    · have : d ∈ win x.1 x.2 (cellsZ a) := mem_win.2 ⟨hd, by omega, by omega⟩
      rw [ok.wa] at this
      rcases ok.ca with ⟨k1, k2⟩ | ⟨k1, k2⟩
      · rw [k2] at this; cases this
      · rcases ok.cb with ⟨m1, m2⟩ | ⟨m1, m2⟩ <;> omega
    · have : d ∈ win x.1 x.2 (cellsZ b) := mem_win.2 ⟨hd, by omega, by omega⟩
      rw [ok.wb] at this
      rcases ok.cb with ⟨k1, k2⟩ | ⟨k1, k2⟩
      · rw [k2] at this; cases this
      · rcases ok.ca with ⟨m1, m2⟩ | ⟨m1, m2⟩ <;> omega
  constructor
  · unfold partsZ
    have gen : ∀ l : List (Nat × Nat), (∀ x ∈ l, x ∈ pairsZ bs) → l.Pairwise (fun x y => x.2 ≤ y.1) → Up ((((l.map (ptOf a b)).filter (fun x => decide (0 < x.p + x.q)))).flatMap g) ∧ ∀ c ∈ ((l.map (ptOf a b)).filter (fun x => decide (0 < x.p + x.q))).flatMap g, ∃ x ∈ l, x.1 ≤ c.at_ ∧ c.at_ < x.2 := by
      intro l
      induction l with
      | nil => intro _ _; exact ⟨List.Pairwise.nil, fun c hc => by cases hc⟩
      | cons x l ih =>
        intro hl hp
        obtain ⟨i1, i2⟩ := ih (fun y hy => hl y (List.mem_cons_of_mem _ hy)) (List.Pairwise.of_cons hp)
        have ok := ptOf_ok ha hb h (hl x List.mem_cons_self)
        obtain ⟨u, hm⟩ := hg x _ ok
        rw [List.map_cons, List.filter_cons]
        split
        · rw [List.flatMap_cons]
          refine ⟨List.pairwise_append.2 ⟨u, i1, fun c hc d hd => ?_⟩, fun c hc => ?_⟩
          · obtain ⟨y, hy, g1, g2⟩ := i2 d hd
            have := List.rel_of_pairwise_cons hp hy
            have := (hm c).1 hc
            omega
          · rcases List.mem_append.1 hc with hc | hc
            · exact ⟨x, List.mem_cons_self, ((hm c).1 hc).1, ((hm c).1 hc).2.1⟩
            · obtain ⟨y, hy, g⟩ := i2 c hc
              exact ⟨y, List.mem_cons_of_mem _ hy, g⟩
        · refine ⟨i1, fun c hc => ?_⟩
          obtain ⟨y, hy, g⟩ := i2 c hc
          exact ⟨y, List.mem_cons_of_mem _ hy, g⟩
    exact (gen _ (fun _ hx => hx) (pairs_up h.up)).1
  · intro c
    constructor
    · intro hc
      obtain ⟨r, hr, hcr⟩ := List.mem_flatMap.1 hc
      obtain ⟨x, hx, rfl⟩ := List.mem_map.1 (List.mem_filter.1 hr).1
      exact (((hg x _ (ptOf_ok ha hb h hx)).2 c).1 hcr).2.2
    · intro hT'
      obtain ⟨d, hd, he⟩ := hT c hT'
      obtain ⟨x, hx, g1, g2⟩ := h.cover hd
      have hcx := ((hg x _ (ptOf_ok ha hb h hx)).2 c).2 ⟨by omega, by omega, hT'⟩
      refine List.mem_flatMap.2 ⟨ptOf a b x, List.mem_filter.2 ⟨List.mem_map.2 ⟨x, hx, rfl⟩, decide_eq_true ?_⟩, hcx⟩
      by_cases hn : 0 < (ptOf a b x).p + (ptOf a b x).q
      · exact hn
      · rw [gz x hx hn] at hcx; cases hcx
/-- The same of what is patched. -/
theorem parts_dz {a b : List Pz} {bs : List Nat} (ha : Srt 0 a) (hb : Srt 0 b) (h : Bnds bs a b) (g : Pt → List Dz) (T : Dz → Prop)
    (hg : ∀ x r, PtOk (cellsZ a) (cellsZ b) x r → UpD (g r) ∧ ∀ c, c ∈ g r ↔ x.1 ≤ c.at_ ∧ c.at_ < x.2 ∧ T c)
    (hT : ∀ c, T c → ∃ d, (d ∈ cellsZ a ∨ d ∈ cellsZ b) ∧ d.at_ = c.at_) : UpD ((partsZ a b bs).flatMap g) ∧ ∀ c, c ∈ (partsZ a b bs).flatMap g ↔ T c := by
  have gz : ∀ x ∈ pairsZ bs, ¬ 0 < (ptOf a b x).p + (ptOf a b x).q → g (ptOf a b x) = [] := by
    intro x hx hn
    have ok := ptOf_ok ha hb h hx
    obtain ⟨-, hm⟩ := hg x _ ok
    refine List.eq_nil_iff_forall_not_mem.2 fun c hc => ?_
    obtain ⟨h1, h2, h3⟩ := (hm c).1 hc
    obtain ⟨d, hd, he⟩ := hT c h3
    rcases hd with hd | hd
    · have : d ∈ win x.1 x.2 (cellsZ a) := mem_win.2 ⟨hd, by omega, by omega⟩
      rw [ok.wa] at this
      rcases ok.ca with ⟨k1, k2⟩ | ⟨k1, k2⟩
      · rw [k2] at this; cases this
      · rcases ok.cb with ⟨m1, m2⟩ | ⟨m1, m2⟩ <;> omega
    · have : d ∈ win x.1 x.2 (cellsZ b) := mem_win.2 ⟨hd, by omega, by omega⟩
      rw [ok.wb] at this
      rcases ok.cb with ⟨k1, k2⟩ | ⟨k1, k2⟩
      · rw [k2] at this; cases this
      · rcases ok.ca with ⟨m1, m2⟩ | ⟨m1, m2⟩ <;> omega
  constructor
  · unfold partsZ
    have gen : ∀ l : List (Nat × Nat), (∀ x ∈ l, x ∈ pairsZ bs) → l.Pairwise (fun x y => x.2 ≤ y.1) → UpD ((((l.map (ptOf a b)).filter (fun x => decide (0 < x.p + x.q)))).flatMap g) ∧ ∀ c ∈ ((l.map (ptOf a b)).filter (fun x => decide (0 < x.p + x.q))).flatMap g, ∃ x ∈ l, x.1 ≤ c.at_ ∧ c.at_ < x.2 := by
      intro l
      induction l with
      | nil => intro _ _; exact ⟨List.Pairwise.nil, fun c hc => by cases hc⟩
      | cons x l ih =>
        intro hl hp
        obtain ⟨i1, i2⟩ := ih (fun y hy => hl y (List.mem_cons_of_mem _ hy)) (List.Pairwise.of_cons hp)
        have ok := ptOf_ok ha hb h (hl x List.mem_cons_self)
        obtain ⟨u, hm⟩ := hg x _ ok
        rw [List.map_cons, List.filter_cons]
        split
        · rw [List.flatMap_cons]
          refine ⟨List.pairwise_append.2 ⟨u, i1, fun c hc d hd => ?_⟩, fun c hc => ?_⟩
          · obtain ⟨y, hy, g1, g2⟩ := i2 d hd
            have := List.rel_of_pairwise_cons hp hy
            have := (hm c).1 hc
            omega
          · rcases List.mem_append.1 hc with hc | hc
            · exact ⟨x, List.mem_cons_self, ((hm c).1 hc).1, ((hm c).1 hc).2.1⟩
            · obtain ⟨y, hy, g⟩ := i2 c hc
              exact ⟨y, List.mem_cons_of_mem _ hy, g⟩
        · refine ⟨i1, fun c hc => ?_⟩
          obtain ⟨y, hy, g⟩ := i2 c hc
          exact ⟨y, List.mem_cons_of_mem _ hy, g⟩
    exact (gen _ (fun _ hx => hx) (pairs_up h.up)).1
  · intro c
    constructor
    · intro hc
      obtain ⟨r, hr, hcr⟩ := List.mem_flatMap.1 hc
      obtain ⟨x, hx, rfl⟩ := List.mem_map.1 (List.mem_filter.1 hr).1
      exact (((hg x _ (ptOf_ok ha hb h hx)).2 c).1 hcr).2.2
    · intro hT'
      obtain ⟨d, hd, he⟩ := hT c hT'
      obtain ⟨x, hx, g1, g2⟩ := h.cover hd
      have hcx := ((hg x _ (ptOf_ok ha hb h hx)).2 c).2 ⟨by omega, by omega, hT'⟩
      refine List.mem_flatMap.2 ⟨ptOf a b x, List.mem_filter.2 ⟨List.mem_map.2 ⟨x, hx, rfl⟩, decide_eq_true ?_⟩, hcx⟩
      by_cases hn : 0 < (ptOf a b x).p + (ptOf a b x).q
      · exact hn
      · rw [gz x hx hn] at hcx; cases hcx

/-- What is lost, gained, patched, by windows. -/
def lostW (r : Pt) : List Cz := if r.p = r.q then [] else if 0 < r.p then cellsAt r.p r.at_ r.a else []
def gainW (r : Pt) : List Cz := if r.p = r.q then [] else if 0 < r.q then cellsAt r.q r.at_ r.b else []
def diffsZ : Nat → List UInt8 → List UInt8 → List Dz
  | a, x :: l, y :: m => if x = y then diffsZ (a + 1) l m else ⟨a, x, y⟩ :: diffsZ (a + 1) l m
  | _, _, _ => []
def patchW (r : Pt) : List Dz := if r.p = r.q then diffsZ r.at_ r.a r.b else []
theorem mem_diffs : ∀ {a : Nat} {l m : List UInt8} {d : Dz}, d ∈ diffsZ a l m ↔ a ≤ d.at_ ∧ l[d.at_ - a]? = some d.old ∧ m[d.at_ - a]? = some d.new ∧ d.old ≠ d.new
  | a, [], m, d => by simp [diffsZ]
  | a, x :: l, [], d => by simp [diffsZ]
  | a, x :: l, y :: m, d => by
    have ih := mem_diffs (a := a + 1) (l := l) (m := m) (d := d)
    have step : ∀ z : List UInt8, ∀ u : UInt8, a + 1 ≤ d.at_ → (u :: z)[d.at_ - a]? = z[d.at_ - (a + 1)]? := fun z u h => by
      rw [show d.at_ - a = (d.at_ - (a + 1)) + 1 by omega, List.getElem?_cons_succ]
    rw [diffsZ]
    split
    · rename_i hxy
      rw [ih]
      constructor
      · rintro ⟨h1, h2, h3, h4⟩
        exact ⟨by omega, by rw [step l x h1]; exact h2, by rw [step m y h1]; exact h3, h4⟩
      · rintro ⟨h1, h2, h3, h4⟩
        by_cases he : d.at_ = a
        · rw [he, Nat.sub_self] at h2 h3
          simp at h2 h3
          exact absurd (h2.symm.trans (hxy.trans h3)) h4
        · exact ⟨by omega, by rw [← step l x (by omega)]; exact h2, by rw [← step m y (by omega)]; exact h3, h4⟩
    · rename_i hxy
      rw [List.mem_cons, ih]
      constructor
      · rintro (rfl | ⟨h1, h2, h3, h4⟩)
        · simp; exact hxy
        · exact ⟨by omega, by rw [step l x h1]; exact h2, by rw [step m y h1]; exact h3, h4⟩
      · rintro ⟨h1, h2, h3, h4⟩
        by_cases he : d.at_ = a
        · rw [he, Nat.sub_self] at h2 h3
          simp at h2 h3
          obtain ⟨da, db, dc⟩ := d
          dsimp only at he h2 h3
          subst he h2 h3
          exact .inl rfl
        · exact .inr ⟨by omega, by rw [← step l x (by omega)]; exact h2, by rw [← step m y (by omega)]; exact h3, h4⟩
theorem upD_diffs : ∀ (a : Nat) (l m : List UInt8), UpD (diffsZ a l m)
  | a, [], m => by rw [diffsZ]; exact List.Pairwise.nil; simp
  | a, x :: l, [] => by rw [diffsZ]; exact List.Pairwise.nil; simp
  | a, x :: l, y :: m => by
    rw [diffsZ]
    split
    · exact upD_diffs (a + 1) l m
    · refine List.Pairwise.cons (fun d hd => ?_) (upD_diffs (a + 1) l m)
      have := (mem_diffs.1 hd).1
      show a < d.at_
      omega

theorem lost_spec {a b : List Pz} {bs : List Nat} (ha : Srt 0 a) (hb : Srt 0 b) (h : Bnds bs a b) : Up ((partsZ a b bs).flatMap lostW) ∧ ∀ c, c ∈ (partsZ a b bs).flatMap lostW ↔ (c ∈ cellsZ a ∧ protAt (cellsZ b) c.at_ ≠ c.prot) := by
  refine parts_cells ha hb h lostW _ (fun x r ok => ?_) (fun c hc => ⟨c, .inl hc.1, rfl⟩)
  have key : ∀ c, c ∈ cellsAt r.p r.at_ r.a ↔ c ∈ cellsZ a ∧ x.1 ≤ c.at_ ∧ c.at_ < x.2 := fun c => by rw [← ok.wa, mem_win]
  unfold lostW
  by_cases e : r.p = r.q
  · rw [if_pos e]
    refine ⟨List.Pairwise.nil, fun c => ⟨fun hc => (by cases hc), fun ⟨h1, h2, h3, h4⟩ => ?_⟩⟩
    have := (mem_cellsAt ((key c).2 ⟨h3, h1, h2⟩)).2.2
    rw [(ok.pb c.at_ h1 h2).1] at h4
    exact absurd (e.symm.trans this.symm) h4
  · rw [if_neg e]
    by_cases hp : 0 < r.p
    · rw [if_pos hp]
      refine ⟨up_cellsAt _ _ _, fun c => ⟨fun hc => ?_, fun ⟨h1, h2, h3, h4⟩ => (key c).2 ⟨h3, h1, h2⟩⟩⟩
      obtain ⟨h1, h2, h3⟩ := (key c).1 hc
      refine ⟨h2, h3, h1, ?_⟩
      rw [(ok.pb c.at_ h2 h3).1, (mem_cellsAt hc).2.2]
      exact fun h => e h.symm
    · rw [if_neg hp]
      refine ⟨List.Pairwise.nil, fun c => ⟨fun hc => (by cases hc), fun ⟨h1, h2, h3, h4⟩ => ?_⟩⟩
      have hm := (key c).2 ⟨h3, h1, h2⟩
      rcases ok.ca with ⟨k1, k2⟩ | ⟨k1, k2⟩
      · rw [k2] at hm; cases hm
      · omega
theorem gain_spec {a b : List Pz} {bs : List Nat} (ha : Srt 0 a) (hb : Srt 0 b) (h : Bnds bs a b) : Up ((partsZ a b bs).flatMap gainW) ∧ ∀ c, c ∈ (partsZ a b bs).flatMap gainW ↔ (c ∈ cellsZ b ∧ protAt (cellsZ a) c.at_ ≠ c.prot) := by
  refine parts_cells ha hb h gainW _ (fun x r ok => ?_) (fun c hc => ⟨c, .inr hc.1, rfl⟩)
  have key : ∀ c, c ∈ cellsAt r.q r.at_ r.b ↔ c ∈ cellsZ b ∧ x.1 ≤ c.at_ ∧ c.at_ < x.2 := fun c => by rw [← ok.wb, mem_win]
  unfold gainW
  by_cases e : r.p = r.q
  · rw [if_pos e]
    refine ⟨List.Pairwise.nil, fun c => ⟨fun hc => (by cases hc), fun ⟨h1, h2, h3, h4⟩ => ?_⟩⟩
    have := (mem_cellsAt ((key c).2 ⟨h3, h1, h2⟩)).2.2
    rw [(ok.pa c.at_ h1 h2).1] at h4
    exact absurd (e.trans this.symm) h4
  · rw [if_neg e]
    by_cases hp : 0 < r.q
    · rw [if_pos hp]
      refine ⟨up_cellsAt _ _ _, fun c => ⟨fun hc => ?_, fun ⟨h1, h2, h3, h4⟩ => (key c).2 ⟨h3, h1, h2⟩⟩⟩
      obtain ⟨h1, h2, h3⟩ := (key c).1 hc
      refine ⟨h2, h3, h1, ?_⟩
      rw [(ok.pa c.at_ h2 h3).1, (mem_cellsAt hc).2.2]
      exact e
    · rw [if_neg hp]
      refine ⟨List.Pairwise.nil, fun c => ⟨fun hc => (by cases hc), fun ⟨h1, h2, h3, h4⟩ => ?_⟩⟩
      have hm := (key c).2 ⟨h3, h1, h2⟩
      rcases ok.cb with ⟨k1, k2⟩ | ⟨k1, k2⟩
      · rw [k2] at hm; cases hm
      · omega
def Patched (A B : List Cz) (d : Dz) : Prop := ∃ c ∈ A, c.at_ = d.at_ ∧ c.b = d.old ∧ protAt B d.at_ = c.prot ∧ byteAt B d.at_ = some d.new ∧ d.old ≠ d.new
theorem patch_spec {a b : List Pz} {bs : List Nat} (ha : Srt 0 a) (hb : Srt 0 b) (h : Bnds bs a b) : UpD ((partsZ a b bs).flatMap patchW) ∧ ∀ d, d ∈ (partsZ a b bs).flatMap patchW ↔ Patched (cellsZ a) (cellsZ b) d := by
  refine parts_dz ha hb h patchW _ (fun x r ok => ?_) (fun d ⟨c, hc, he, _⟩ => ⟨c, .inl hc, he⟩)
  have key : ∀ c, c ∈ cellsAt r.p r.at_ r.a ↔ c ∈ cellsZ a ∧ x.1 ≤ c.at_ ∧ c.at_ < x.2 := fun c => by rw [← ok.wa, mem_win]
  unfold patchW
  by_cases e : r.p = r.q
  · rw [if_pos e]
    refine ⟨upD_diffs _ _ _, fun d => ?_⟩
    rw [mem_diffs, ok.at_]
    constructor
    · rintro ⟨h1, h2, h3, h4⟩
      have hlt : d.at_ < x.2 := by
        have hl := (List.getElem?_eq_some_iff.1 h2).1
        have := ok.lt
        rcases ok.ca with ⟨k1, k2⟩ | ⟨k1, k2⟩
        · rw [k2] at hl; simp at hl
        · omega
      have hc := cellsAt_get r.p r.at_ _ _ _ h2
      rw [ok.at_, show x.1 + (d.at_ - x.1) = d.at_ by omega] at hc
      have hm := List.mem_of_getElem? hc
      rw [← ok.at_] at hm
      obtain ⟨m1, m2, m3⟩ := (key _).1 hm
      refine ⟨h1, hlt, _, m1, rfl, rfl, ?_, ?_, h4⟩
      · rw [(ok.pb d.at_ h1 hlt).1]; exact e.symm
      · rw [(ok.pb d.at_ h1 hlt).2]; exact h3
    · rintro ⟨h1, h2, c, hc, he, hb', hp, hy, hn⟩
      refine ⟨h1, ?_, ?_, hn⟩
      · rw [← (ok.pa d.at_ h1 h2).2, ← he, byteAt_mem ha.up hc, hb']
      · rw [← (ok.pb d.at_ h1 h2).2]; exact hy
  · rw [if_neg e]
    refine ⟨List.Pairwise.nil, fun d => ⟨fun hc => (by cases hc), fun ⟨h1, h2, c, hc, he, hb', hp, hy, hn⟩ => ?_⟩⟩
    rw [(ok.pb d.at_ h1 h2).1] at hp
    have := (ok.pa d.at_ h1 h2).1
    rw [← he, protAt_mem ha.up hc] at this
    exact absurd (this.symm.trans hp.symm) e
end Go.Proofs.YtjfkgdfmkofbmaaGreatDoor

namespace Go.Proofs.YtjfkgdfmkofbmaaGreatDoor
set_option linter.unusedSimpArgs false
set_option linter.unusedVariables false

def mergeR : List Cz → List Cz → List Cz × List Cz × List Dz
  | [], y => ([], y, [])
  | c :: x, [] => (c :: x, [], [])
  | c :: x, d :: y =>
    if c.at_ < d.at_ then let r := mergeR x (d :: y); (c :: r.1, r.2.1, r.2.2)
    else if d.at_ < c.at_ then let r := mergeR (c :: x) y; (r.1, d :: r.2.1, r.2.2)
    else if c.prot ≠ d.prot then let r := mergeR x y; (c :: r.1, d :: r.2.1, r.2.2)
    else if c.b ≠ d.b then let r := mergeR x y; (r.1, r.2.1, ⟨c.at_, c.b, d.b⟩ :: r.2.2)
    else mergeR x y
termination_by x y => x.length + y.length

theorem protAt_cons (d : Cz) (y : List Cz) (a : Nat) : protAt (d :: y) a = if d.at_ = a then d.prot else protAt y a := by
  unfold protAt
  rw [List.find?_cons]
  by_cases h : d.at_ = a
  · rw [if_pos h, show (d.at_ == a) = true by simpa using h]
  · rw [if_neg h, show (d.at_ == a) = false by simpa using h]
theorem byteAt_cons (d : Cz) (y : List Cz) (a : Nat) : byteAt (d :: y) a = if d.at_ = a then some d.b else byteAt y a := by
  unfold byteAt
  rw [List.find?_cons]
  by_cases h : d.at_ = a
  · rw [if_pos h, show (d.at_ == a) = true by simpa using h]; rfl
  · rw [if_neg h, show (d.at_ == a) = false by simpa using h]
theorem Up.tail {c : Cz} {l : List Cz} (h : Up (c :: l)) : Up l := List.Pairwise.of_cons h
theorem Up.head {c : Cz} {l : List Cz} (h : Up (c :: l)) : ∀ d ∈ l, c.at_ < d.at_ := fun d hd => List.rel_of_pairwise_cons h hd
theorem protAt_above {y : List Cz} {a : Nat} (h : ∀ d ∈ y, a < d.at_) : protAt y a = 0 := protAt_none (fun c hc => by have := h c hc; omega)
theorem byteAt_above {y : List Cz} {a : Nat} (h : ∀ d ∈ y, a < d.at_) : byteAt y a = none := byteAt_none (fun c hc => by have := h c hc; omega)

structure MergeIs (x y : List Cz) (r : List Cz × List Cz × List Dz) : Prop where
  l : ∀ c, c ∈ r.1 ↔ c ∈ x ∧ protAt y c.at_ ≠ c.prot
  g : ∀ c, c ∈ r.2.1 ↔ c ∈ y ∧ protAt x c.at_ ≠ c.prot
  d : ∀ d, d ∈ r.2.2 ↔ Patched x y d
  ul : Up r.1
  ug : Up r.2.1
  ud : UpD r.2.2
theorem merge_is : ∀ (x y : List Cz), Up x → Up y → (∀ c ∈ x, 1 ≤ c.prot) → (∀ c ∈ y, 1 ≤ c.prot) → MergeIs x y (mergeR x y)
  | [], y, hx, hy, px, py => by
    rw [mergeR]
    refine ⟨fun c => by simp, fun c => ⟨fun h => ⟨h, ?_⟩, fun h => h.1⟩, fun d => ⟨fun h => by simp at h, fun ⟨c, hc, _⟩ => by cases hc⟩, List.Pairwise.nil, hy, List.Pairwise.nil⟩
    have := py c h
    show (0 : Int) ≠ c.prot
    omega
  | c :: x, [], hx, hy, px, py => by
    rw [mergeR]
    refine ⟨fun e => ⟨fun h => ⟨h, ?_⟩, fun h => h.1⟩, fun c => by simp, fun d => ⟨fun h => by simp at h, fun ⟨c, hc, _, _, _, h, _⟩ => by simp [byteAt] at h⟩, hx, List.Pairwise.nil, List.Pairwise.nil⟩
    have := px e h
    show (0 : Int) ≠ e.prot
    omega
  | c :: x, d :: y, hx, hy, px, py => by
    have pc := px c List.mem_cons_self
    have pd := py d List.mem_cons_self
    have px' : ∀ e ∈ x, 1 ≤ e.prot := fun e he => px e (List.mem_cons_of_mem _ he)
    have py' : ∀ e ∈ y, 1 ≤ e.prot := fun e he => py e (List.mem_cons_of_mem _ he)
    have hcx := hx.head
    have hdy := hy.head
    rw [mergeR]
    by_cases h1 : c.at_ < d.at_
    · rw [if_pos h1]
      have ih := merge_is x (d :: y) hx.tail hy px' py
      have z : protAt (d :: y) c.at_ = 0 := protAt_above (fun e he => by
        rcases List.mem_cons.1 he with rfl | he
        · exact h1
        · have := hdy e he; omega)
      have zb : byteAt (d :: y) c.at_ = none := byteAt_above (fun e he => by
        rcases List.mem_cons.1 he with rfl | he
        · exact h1
        · have := hdy e he; omega)
      refine ⟨fun e => ?_, fun e => ?_, fun e => ?_, ?_, ih.ug, ih.ud⟩
      · rw [List.mem_cons, List.mem_cons, ih.l]
        constructor
        · rintro (rfl | h)
          · exact ⟨.inl rfl, by rw [z]; omega⟩
          · exact ⟨.inr h.1, h.2⟩
        · rintro ⟨rfl | h, g⟩
          · exact .inl rfl
          · exact .inr ⟨h, g⟩
      · show e ∈ (mergeR x (d :: y)).2.1 ↔ _
        rw [ih.g]
        constructor
        · rintro ⟨h, g⟩
          refine ⟨h, ?_⟩
          have : c.at_ < e.at_ := by
            rcases List.mem_cons.1 h with rfl | h
            · exact h1
            · have := hdy e h; omega
          rw [protAt_cons, if_neg (by omega)]
          exact g
        · rintro ⟨h, g⟩
          refine ⟨h, ?_⟩
          have : c.at_ < e.at_ := by
            rcases List.mem_cons.1 h with rfl | h
            · exact h1
            · have := hdy e h; omega
          rw [protAt_cons, if_neg (by omega)] at g
          exact g
      · show e ∈ (mergeR x (d :: y)).2.2 ↔ _
        rw [ih.d]
        constructor
        · rintro ⟨k, hk, g⟩; exact ⟨k, List.mem_cons_of_mem _ hk, g⟩
        · rintro ⟨k, hk, g1, g2, g3, g4, g5⟩
          rcases List.mem_cons.1 hk with rfl | hk
          · rw [← g1, zb] at g4; cases g4
          · exact ⟨k, hk, g1, g2, g3, g4, g5⟩
      · exact List.Pairwise.cons (fun e he => hcx e ((ih.l e).1 he).1) ih.ul
    · rw [if_neg h1]
      by_cases h2 : d.at_ < c.at_
      · rw [if_pos h2]
        have ih := merge_is (c :: x) y hx hy.tail px py'
        have z : protAt (c :: x) d.at_ = 0 := protAt_above (fun e he => by
          rcases List.mem_cons.1 he with rfl | he
          · exact h2
          · have := hcx e he; omega)
        have far : ∀ e ∈ c :: x, d.at_ < e.at_ := fun e he => by
          rcases List.mem_cons.1 he with rfl | he
          · exact h2
          · have := hcx e he; omega
        refine ⟨fun e => ?_, fun e => ?_, fun e => ?_, ih.ul, ?_, ih.ud⟩
        · show e ∈ (mergeR (c :: x) y).1 ↔ _
          rw [ih.l]
          constructor
          · rintro ⟨h, g⟩; exact ⟨h, by rw [protAt_cons, if_neg (by have := far e h; omega)]; exact g⟩
          · rintro ⟨h, g⟩; rw [protAt_cons, if_neg (by have := far e h; omega)] at g; exact ⟨h, g⟩
        · rw [List.mem_cons, List.mem_cons, ih.g]
          constructor
          · rintro (rfl | h)
            · exact ⟨.inl rfl, by rw [z]; omega⟩
            · exact ⟨.inr h.1, h.2⟩
          · rintro ⟨rfl | h, g⟩
            · exact .inl rfl
            · exact .inr ⟨h, g⟩
        · show e ∈ (mergeR (c :: x) y).2.2 ↔ _
          rw [ih.d]
          constructor
          · rintro ⟨k, hk, g1, g2, g3, g4, g5⟩
            have := far k hk
            exact ⟨k, hk, g1, g2, by rw [protAt_cons, if_neg (by omega)]; exact g3, by rw [byteAt_cons, if_neg (by omega)]; exact g4, g5⟩
          · rintro ⟨k, hk, g1, g2, g3, g4, g5⟩
            have := far k hk
            rw [protAt_cons, if_neg (by omega)] at g3
            rw [byteAt_cons, if_neg (by omega)] at g4
            exact ⟨k, hk, g1, g2, g3, g4, g5⟩
        · exact List.Pairwise.cons (fun e he => hdy e ((ih.g e).1 he).1) ih.ug
      · rw [if_neg h2]
        have he : c.at_ = d.at_ := by omega
        have ih := merge_is x y hx.tail hy.tail px' py'
        have q1 : protAt (d :: y) c.at_ = d.prot := by rw [protAt_cons, if_pos he.symm]
        have q2 : protAt (c :: x) d.at_ = c.prot := by rw [protAt_cons, if_pos he]
        have q3 : byteAt (d :: y) c.at_ = some d.b := by rw [byteAt_cons, if_pos he.symm]
        have fx : ∀ e ∈ x, d.at_ < e.at_ := fun e h => by have := hcx e h; omega
        have fy : ∀ e ∈ y, c.at_ < e.at_ := fun e h => by have := hdy e h; omega
        have lx : ∀ e, e ∈ (mergeR x y).1 ↔ e ∈ x ∧ protAt (d :: y) e.at_ ≠ e.prot := fun e => by
          rw [ih.l]
          constructor
          · rintro ⟨h, g⟩; exact ⟨h, by rw [protAt_cons, if_neg (by have := fx e h; omega)]; exact g⟩
          · rintro ⟨h, g⟩; rw [protAt_cons, if_neg (by have := fx e h; omega)] at g; exact ⟨h, g⟩
        have gy : ∀ e, e ∈ (mergeR x y).2.1 ↔ e ∈ y ∧ protAt (c :: x) e.at_ ≠ e.prot := fun e => by
          rw [ih.g]
          constructor
          · rintro ⟨h, g⟩; exact ⟨h, by rw [protAt_cons, if_neg (by have := fy e h; omega)]; exact g⟩
          · rintro ⟨h, g⟩; rw [protAt_cons, if_neg (by have := fy e h; omega)] at g; exact ⟨h, g⟩
        have dz : ∀ e, e ∈ (mergeR x y).2.2 ↔ ∃ k ∈ x, k.at_ = e.at_ ∧ k.b = e.old ∧ protAt (d :: y) e.at_ = k.prot ∧ byteAt (d :: y) e.at_ = some e.new ∧ e.old ≠ e.new := fun e => by
          rw [ih.d]
          constructor
          · rintro ⟨k, hk, g1, g2, g3, g4, g5⟩
            have := fx k hk
            exact ⟨k, hk, g1, g2, by rw [protAt_cons, if_neg (by omega)]; exact g3, by rw [byteAt_cons, if_neg (by omega)]; exact g4, g5⟩
          · rintro ⟨k, hk, g1, g2, g3, g4, g5⟩
            have := fx k hk
            rw [protAt_cons, if_neg (by omega)] at g3
            rw [byteAt_cons, if_neg (by omega)] at g4
            exact ⟨k, hk, g1, g2, g3, g4, g5⟩
        by_cases h3 : c.prot ≠ d.prot
        · rw [if_pos h3]
          refine ⟨fun e => ?_, fun e => ?_, fun e => ?_, ?_, ?_, ih.ud⟩
          · rw [List.mem_cons, List.mem_cons, lx]
            constructor
            · rintro (rfl | h)
              · exact ⟨.inl rfl, by rw [q1]; exact fun h => h3 h.symm⟩
              · exact ⟨.inr h.1, h.2⟩
            · rintro ⟨rfl | h, g⟩
              · exact .inl rfl
              · exact .inr ⟨h, g⟩
          · rw [List.mem_cons, List.mem_cons, gy]
            constructor
            · rintro (rfl | h)
              · exact ⟨.inl rfl, by rw [q2]; exact h3⟩
              · exact ⟨.inr h.1, h.2⟩
            · rintro ⟨rfl | h, g⟩
              · exact .inl rfl
              · exact .inr ⟨h, g⟩
          · show e ∈ (mergeR x y).2.2 ↔ _
            rw [dz]
            constructor
            · rintro ⟨k, hk, g⟩; exact ⟨k, List.mem_cons_of_mem _ hk, g⟩
            · rintro ⟨k, hk, g1, g2, g3, g4, g5⟩
              rcases List.mem_cons.1 hk with rfl | hk
              · rw [← g1, q1] at g3; exact absurd g3.symm h3
              · exact ⟨k, hk, g1, g2, g3, g4, g5⟩
          · exact List.Pairwise.cons (fun e he => hcx e ((lx e).1 he).1) ih.ul
          · exact List.Pairwise.cons (fun e he => hdy e ((gy e).1 he).1) ih.ug
        · rw [if_neg h3]
          have h3 : c.prot = d.prot := Decidable.not_not.1 h3
          have lx' : ∀ e, e ∈ (mergeR x y).1 ↔ e ∈ c :: x ∧ protAt (d :: y) e.at_ ≠ e.prot := fun e => by
            rw [lx]
            constructor
            · rintro ⟨h, g⟩; exact ⟨List.mem_cons_of_mem _ h, g⟩
            · rintro ⟨h, g⟩
              rcases List.mem_cons.1 h with rfl | h
              · rw [q1] at g; exact absurd h3.symm g
              · exact ⟨h, g⟩
          have gy' : ∀ e, e ∈ (mergeR x y).2.1 ↔ e ∈ d :: y ∧ protAt (c :: x) e.at_ ≠ e.prot := fun e => by
            rw [gy]
            constructor
            · rintro ⟨h, g⟩; exact ⟨List.mem_cons_of_mem _ h, g⟩
            · rintro ⟨h, g⟩
              rcases List.mem_cons.1 h with rfl | h
              · rw [q2] at g; exact absurd h3 g
              · exact ⟨h, g⟩
          by_cases h4 : c.b ≠ d.b
          · rw [if_pos h4]
            refine ⟨lx', gy', fun e => ?_, ih.ul, ih.ug, ?_⟩
            · rw [List.mem_cons, dz]
              constructor
              · rintro (rfl | ⟨k, hk, g⟩)
                · exact ⟨c, List.mem_cons_self, rfl, rfl, by rw [q1]; exact h3.symm, q3, h4⟩
                · exact ⟨k, List.mem_cons_of_mem _ hk, g⟩
              · rintro ⟨k, hk, g1, g2, g3, g4, g5⟩
                rcases List.mem_cons.1 hk with rfl | hk
                · rw [← g1, q3] at g4
                  obtain ⟨ea, eo, en⟩ := e
                  dsimp only at g1 g2 g4
                  subst g1 g2
                  exact .inl (by rw [Option.some.inj g4])
                · exact .inr ⟨k, hk, g1, g2, g3, g4, g5⟩
            · refine List.Pairwise.cons (fun e he => ?_) ih.ud
              obtain ⟨k, hk, g1, _⟩ := (dz e).1 he
              have := hcx k hk
              show c.at_ < e.at_
              omega
          · rw [if_neg h4]
            refine ⟨lx', gy', fun e => ?_, ih.ul, ih.ug, ih.ud⟩
            rw [dz]
            constructor
            · rintro ⟨k, hk, g⟩; exact ⟨k, List.mem_cons_of_mem _ hk, g⟩
            · rintro ⟨k, hk, g1, g2, g3, g4, g5⟩
              rcases List.mem_cons.1 hk with rfl | hk
              · rw [← g1, q3] at g4
                exact absurd (g2.symm.trans ((Decidable.not_not.1 h4).trans (Option.some.inj g4))) g5
              · exact ⟨k, hk, g1, g2, g3, g4, g5⟩
termination_by x y => x.length + y.length

/-- The windows tell the same. -/
theorem windows_merge {a b : List Pz} {bs : List Nat} (ha : Srt 0 a) (hb : Srt 0 b) (h : Bnds bs a b) :
    (partsZ a b bs).flatMap lostW = (mergeR (cellsZ a) (cellsZ b)).1 ∧ (partsZ a b bs).flatMap gainW = (mergeR (cellsZ a) (cellsZ b)).2.1 ∧ (partsZ a b bs).flatMap patchW = (mergeR (cellsZ a) (cellsZ b)).2.2 := by
  have m := merge_is (cellsZ a) (cellsZ b) ha.up hb.up (fun c hc => (ha.lows c hc).2.2) (fun c hc => (hb.lows c hc).2.2)
  obtain ⟨l1, l2⟩ := lost_spec ha hb h
  obtain ⟨g1, g2⟩ := gain_spec ha hb h
  obtain ⟨d1, d2⟩ := patch_spec ha hb h
  exact ⟨up_ext l1 m.ul (fun c => (l2 c).trans (m.l c).symm), up_ext g1 m.ug (fun c => (g2 c).trans (m.g c).symm), upD_ext d1 m.ud (fun c => (d2 c).trans (m.d c).symm)⟩

/-- Patches: bytes one behind the other. -/
structure Gz where
  at_ : Nat
  old : List UInt8
  new : List UInt8
def pushD (out : List Gz) (d : Dz) : List Gz :=
  match out.getLast? with
  | none => [⟨d.at_, [d.old], [d.new]⟩]
  | some g => if g.at_ + g.old.length = d.at_ then out.dropLast ++ [⟨g.at_, g.old ++ [d.old], g.new ++ [d.new]⟩] else out ++ [⟨d.at_, [d.old], [d.new]⟩]
theorem pushD_snoc (l : List Gz) (g : Gz) (d : Dz) : pushD (l ++ [g]) d = if g.at_ + g.old.length = d.at_ then l ++ [⟨g.at_, g.old ++ [d.old], g.new ++ [d.new]⟩] else l ++ [g] ++ [⟨d.at_, [d.old], [d.new]⟩] := by
  unfold pushD
  simp

/-- What a memory's rows are. -/
structure Rz where
  lost : List Pz
  gained : List Pz
  patches : List Gz
def memZ (a b : List Pz) : Rz :=
  let r := mergeR (cellsZ a) (cellsZ b)
  ⟨piecesZ r.1, piecesZ r.2.1, r.2.2.foldl pushD []⟩

/-- The program's loop, window by window. -/
def stepZ (x : Rz) (r : Pt) : Rz :=
  if r.p = r.q then { x with patches := (diffsZ r.at_ r.a r.b).foldl pushD x.patches }
  else ⟨if 0 < r.p then putP x.lost r.at_ r.p r.a else x.lost, if 0 < r.q then putP x.gained r.at_ r.q r.b else x.gained, x.patches⟩
theorem foldl_step : ∀ (l : List Pt) (x : Rz), (∀ r ∈ l, (0 < r.p → r.a ≠ []) ∧ (0 < r.q → r.b ≠ [])) →
    l.foldl stepZ x = ⟨(l.flatMap lostW).foldl pushC x.lost, (l.flatMap gainW).foldl pushC x.gained, (l.flatMap patchW).foldl pushD x.patches⟩
  | [], x, _ => rfl
  | r :: l, x, h => by
    obtain ⟨h1, h2⟩ := h r List.mem_cons_self
    rw [List.foldl_cons, foldl_step l _ (fun y hy => h y (List.mem_cons_of_mem _ hy)), List.flatMap_cons, List.flatMap_cons, List.flatMap_cons, List.foldl_append, List.foldl_append, List.foldl_append]
    unfold stepZ lostW gainW patchW
    by_cases e : r.p = r.q
    · rw [if_pos e, if_pos e, if_pos e, if_pos e]
      rfl
    · rw [if_neg e, if_neg e, if_neg e, if_neg e]
      congr 2
      · by_cases hp : 0 < r.p
        · rw [if_pos hp, if_pos hp, putP_cells _ _ _ _ (h1 hp)]
        · rw [if_neg hp, if_neg hp]; rfl
      · by_cases hp : 0 < r.q
        · rw [if_pos hp, if_pos hp, putP_cells _ _ _ _ (h2 hp)]
        · rw [if_neg hp, if_neg hp]; rfl
theorem parts_full {a b : List Pz} {bs : List Nat} (ha : Srt 0 a) (hb : Srt 0 b) (h : Bnds bs a b) : ∀ r ∈ partsZ a b bs, (0 < r.p → r.a ≠ []) ∧ (0 < r.q → r.b ≠ []) ∧ 0 < r.p + r.q ∧ 0 ≤ r.p ∧ 0 ≤ r.q ∧ (0 < r.p → 0 < r.q → r.a.length = r.b.length) := by
  intro r hr
  obtain ⟨hr1, hr2⟩ := List.mem_filter.1 hr
  obtain ⟨x, hx, rfl⟩ := List.mem_map.1 hr1
  have ok := ptOf_ok ha hb h hx
  have := ok.lt
  have hpos := of_decide_eq_true hr2
  rcases ok.ca with ⟨k1, k2⟩ | ⟨k1, k2⟩ <;> rcases ok.cb with ⟨m1, m2⟩ | ⟨m1, m2⟩
  · omega
  · exact ⟨fun h => by omega, fun _ e => by rw [e] at m2; simp at m2; omega, hpos, by omega, by omega, fun h => by omega⟩
  · exact ⟨fun _ e => by rw [e] at k2; simp at k2; omega, fun h => by omega, hpos, by omega, by omega, fun _ h => by omega⟩
  · exact ⟨fun _ e => by rw [e] at k2; simp at k2; omega, fun _ e => by rw [e] at m2; simp at m2; omega, hpos, by omega, by omega, fun _ _ => by omega⟩
theorem memory_is {a b : List Pz} {bs : List Nat} (ha : Srt 0 a) (hb : Srt 0 b) (h : Bnds bs a b) : (partsZ a b bs).foldl stepZ ⟨[], [], []⟩ = memZ a b := by
  rw [foldl_step _ _ (fun r hr => ⟨(parts_full ha hb h r hr).1, (parts_full ha hb h r hr).2.1⟩)]
  obtain ⟨e1, e2, e3⟩ := windows_merge ha hb h
  rw [e1, e2, e3]
  rfl
end Go.Proofs.YtjfkgdfmkofbmaaGreatDoor

namespace Go.Proofs.YtjfkgdfmkofbmaaGreatDoor
set_option linter.unusedSimpArgs false
set_option linter.unusedVariables false

theorem pieces_snoc (l : List Cz) (c : Cz) : piecesZ (l ++ [c]) = pushC (piecesZ l) c := by unfold piecesZ; rw [List.foldl_append]; rfl
theorem pushC_nil (c : Cz) : pushC [] c = [⟨c.at_, c.prot, [c.b]⟩] := rfl
theorem pushC_snoc (l : List Pz) (p : Pz) (c : Cz) : pushC (l ++ [p]) c = if p.end_ = c.at_ ∧ p.prot = c.prot then l ++ [⟨p.at_, p.prot, p.bytes ++ [c.b]⟩] else l ++ [p] ++ [⟨c.at_, c.prot, [c.b]⟩] := by
  rw [pushC_put, putP_snoc]
theorem list_snoc_ind {α : Type} {P : List α → Prop} (h0 : P []) (h1 : ∀ l a, P l → P (l ++ [a])) : ∀ l, P l := by
  intro l
  have : ∀ l : List α, P l.reverse := by
    intro l
    induction l with
    | nil => exact h0
    | cons a l ih => rw [List.reverse_cons]; exact h1 _ _ ih
  have := this l.reverse
  rwa [List.reverse_reverse] at this
/-- The last piece ends behind the last byte. -/
theorem pieces_last (l : List Cz) (c : Cz) : ∃ init p, piecesZ (l ++ [c]) = init ++ [p] ∧ p.end_ = c.at_ + 1 ∧ p.prot = c.prot := by
  rw [pieces_snoc]
  rcases last_cases (piecesZ l) with h | ⟨m, p, h⟩
  · rw [h, pushC_nil]; exact ⟨[], _, rfl, rfl, rfl⟩
  · rw [h, pushC_snoc]
    split
    · rename_i e
      exact ⟨m, _, rfl, by simp only [Pz.end_] at e ⊢; rw [List.length_append]; simp; omega, e.2⟩
    · exact ⟨m ++ [p], _, rfl, rfl, rfl⟩
theorem pieces_ok (l : List Cz) (h : ∀ c ∈ l, c.at_ < MAXA) : ∀ p ∈ piecesZ l, p.bytes ≠ [] ∧ p.end_ ≤ MAXA := by
  revert h
  refine list_snoc_ind (P := fun l => (∀ c ∈ l, c.at_ < MAXA) → ∀ p ∈ piecesZ l, p.bytes ≠ [] ∧ p.end_ ≤ MAXA) (fun _ p hp => by cases hp) (fun l c ih hl => ?_) l
  have hc := hl c (by simp)
  have ih := ih (fun x hx => hl x (by simp [hx]))
  rw [pieces_snoc]
  rcases last_cases (piecesZ l) with h | ⟨m, p, h⟩
  · rw [h, pushC_nil]
    intro p hp
    rw [List.mem_singleton] at hp; subst hp
    exact ⟨by simp, hc⟩
  · rw [h] at ih ⊢
    rw [pushC_snoc]
    split
    · rename_i e
      intro q hq
      rcases List.mem_append.1 hq with hq | hq
      · exact ih q (List.mem_append_left _ hq)
      · rw [List.mem_singleton] at hq; subst hq
        refine ⟨by simp, ?_⟩
        simp only [Pz.end_] at e ⊢
        rw [List.length_append]; simp; omega
    · intro q hq
      rcases List.mem_append.1 hq with hq | hq
      · exact ih q hq
      · rw [List.mem_singleton] at hq; subst hq
        exact ⟨by simp, hc⟩
theorem pieces_len (l : List Cz) : (piecesZ l).length ≤ l.length := by
  refine list_snoc_ind (P := fun l => (piecesZ l).length ≤ l.length) (Nat.le_refl _) (fun l c ih => ?_) l
  rw [pieces_snoc, List.length_append]
  rcases last_cases (piecesZ l) with h | ⟨m, p, h⟩
  · rw [h, pushC_nil]; simp
  · rw [h] at ih ⊢
    rw [pushC_snoc]
    split <;> simp at ih ⊢ <;> omega
theorem cells_max {n : Nat} {l : List Pz} (h : Srt n l) : ∀ c ∈ cellsZ l, c.at_ < MAXA := fun c hc => (h.lows c hc).2.1
end Go.Proofs.YtjfkgdfmkofbmaaGreatDoor

namespace Go.Proofs.YtjfkgdfmkofbmaaGreatDoor
set_option linter.unusedSimpArgs false
set_option linter.unusedVariables false

theorem parts_a {a b : List Pz} {bs : List Nat} (ha : Srt 0 a) (hb : Srt 0 b) (h : Bnds bs a b) : (partsZ a b bs).flatMap (fun r => cellsAt r.p r.at_ r.a) = cellsZ a := by
  obtain ⟨u, m⟩ := parts_cells ha hb h (fun r => cellsAt r.p r.at_ r.a) (fun c => c ∈ cellsZ a) (fun x r ok => ⟨up_cellsAt _ _ _, fun c => by rw [← ok.wa, mem_win]; exact ⟨fun h => ⟨h.2.1, h.2.2, h.1⟩, fun h => ⟨h.2.2, h.1, h.2.1⟩⟩⟩) (fun c hc => ⟨c, .inl hc, rfl⟩)
  exact up_ext u ha.up m
theorem parts_b {a b : List Pz} {bs : List Nat} (ha : Srt 0 a) (hb : Srt 0 b) (h : Bnds bs a b) : (partsZ a b bs).flatMap (fun r => cellsAt r.q r.at_ r.b) = cellsZ b := by
  obtain ⟨u, m⟩ := parts_cells ha hb h (fun r => cellsAt r.q r.at_ r.b) (fun c => c ∈ cellsZ b) (fun x r ok => ⟨up_cellsAt _ _ _, fun c => by rw [← ok.wb, mem_win]; exact ⟨fun h => ⟨h.2.1, h.2.2, h.1⟩, fun h => ⟨h.2.2, h.1, h.2.1⟩⟩⟩) (fun c hc => ⟨c, .inr hc, rfl⟩)
  exact up_ext u hb.up m
def sumA (l : List Pt) : Nat := (l.map (fun r => r.a.length)).sum
theorem sum_cells (l : List Pt) : (l.flatMap (fun r => cellsAt r.p r.at_ r.a)).length = sumA l := by
  unfold sumA
  induction l with
  | nil => rfl
  | cons r l ih => rw [List.flatMap_cons, List.length_append, ih, cellsAt_length, List.map_cons, List.sum_cons]
theorem sumA_app (l m : List Pt) : sumA (l ++ m) = sumA l + sumA m := by unfold sumA; rw [List.map_append, List.sum_append]
theorem sumA_snoc (l : List Pt) (r : Pt) : sumA (l ++ [r]) = sumA l + r.a.length := by rw [sumA_app]; unfold sumA; simp
theorem pushD_len (l : List Gz) (d : Dz) : (pushD l d).length ≤ l.length + 1 := by
  rcases List.eq_nil_or_concat l with rfl | ⟨m, g, rfl⟩
  · exact Nat.le_refl _
  · rw [List.concat_eq_append, pushD_snoc]
    split <;> simp
theorem pushD_fold (ds : List Dz) : ∀ l : List Gz, (ds.foldl pushD l).length ≤ l.length + ds.length := by
  induction ds with
  | nil => intro l; exact Nat.le_refl _
  | cons d ds ih =>
    intro l
    rw [List.foldl_cons, List.length_cons]
    have := ih (pushD l d)
    have := pushD_len l d
    omega
theorem diffs_len : ∀ (a : Nat) (l m : List UInt8), (diffsZ a l m).length ≤ l.length
  | a, [], m => by cases m <;> simp [diffsZ]
  | a, x :: l, [] => by simp [diffsZ]
  | a, x :: l, y :: m => by
    have := diffs_len (a + 1) l m
    unfold diffsZ
    split <;> simp <;> omega
/-- How long the rows are. -/
theorem step_lens (l : List Pt) : ∀ x : Rz, (l.foldl stepZ x).lost.length ≤ x.lost.length + l.length ∧ (l.foldl stepZ x).gained.length ≤ x.gained.length + l.length ∧ (l.foldl stepZ x).patches.length ≤ x.patches.length + sumA l := by
  have plen : ∀ (l : List Pz) (a : Nat) (q : Int) (bs : List UInt8), (putP l a q bs).length ≤ l.length + 1 := fun l a q bs => by
    rcases last_cases l with rfl | ⟨m, p, rfl⟩
    · exact Nat.le_refl _
    · rw [putP_snoc]
      split <;> simp
  induction l with
  | nil => intro x; exact ⟨Nat.le_refl _, Nat.le_refl _, Nat.le_refl _⟩
  | cons r l ih =>
    intro x
    rw [List.foldl_cons, List.length_cons]
    obtain ⟨h1, h2, h3⟩ := ih (stepZ x r)
    have e : sumA (r :: l) = r.a.length + sumA l := rfl
    rw [e]
    have k : (stepZ x r).lost.length ≤ x.lost.length + 1 ∧ (stepZ x r).gained.length ≤ x.gained.length + 1 ∧ (stepZ x r).patches.length ≤ x.patches.length + r.a.length := by
      unfold stepZ
      split
      · have := pushD_fold (diffsZ r.at_ r.a r.b) x.patches
        have := diffs_len r.at_ r.a r.b
        exact ⟨Nat.le_succ _, Nat.le_succ _, by dsimp only; omega⟩
      · refine ⟨?_, ?_, by dsimp only; omega⟩
        · dsimp only; split
          · exact plen _ _ _ _
          · exact Nat.le_succ _
        · dsimp only; split
          · exact plen _ _ _ _
          · exact Nat.le_succ _
    omega
theorem diffs_drop {a i : Nat} {l m : List UInt8} {x y : UInt8} (h1 : l[i]? = some x) (h2 : m[i]? = some y) : diffsZ (a + i) (l.drop i) (m.drop i) = if x = y then diffsZ (a + (i + 1)) (l.drop (i + 1)) (m.drop (i + 1)) else ⟨a + i, x, y⟩ :: diffsZ (a + (i + 1)) (l.drop (i + 1)) (m.drop (i + 1)) := by
  obtain ⟨a1, rfl⟩ := List.getElem?_eq_some_iff.1 h1
  obtain ⟨a2, rfl⟩ := List.getElem?_eq_some_iff.1 h2
  rw [List.drop_eq_getElem_cons a1, List.drop_eq_getElem_cons a2]
  conv => lhs; unfold diffsZ
  rfl
theorem diffs_nil {a : Nat} {l m : List UInt8} (h : l = []) : diffsZ a l m = [] := by
  subst h; cases m <;> rfl
end Go.Proofs.YtjfkgdfmkofbmaaGreatDoor

namespace Go.Proofs.YtjfkgdfmkofbmaaGreatDoor
set_option linter.unusedSimpArgs false
set_option linter.unusedVariables false

theorem parts_of {a b : List Pz} {bs : List Nat} {r : Pt} (h : r ∈ partsZ a b bs) : ∃ x ∈ pairsZ bs, ptOf a b x = r := by
  unfold partsZ at h
  obtain ⟨h1, -⟩ := List.mem_filter.1 h
  obtain ⟨x, hx, e⟩ := List.mem_map.1 h1
  exact ⟨x, hx, e⟩
theorem cellsAt_head {q : Int} {a : Nat} {l : List UInt8} (h : l ≠ []) : ∃ c ∈ cellsAt q a l, c.at_ = a := by
  cases l with
  | nil => exact absurd rfl h
  | cons b l => exact ⟨⟨a, q, b⟩, List.mem_cons_self, rfl⟩
theorem meet_parts {a b : List Pz} {bs : List Nat} (ha : Srt 0 a) (hb : Srt 0 b) (h : Bnds bs a b) : (∃ r ∈ partsZ a b bs, 0 < r.p ∧ 0 < r.q) ↔ ∃ c ∈ cellsZ a, ∃ d ∈ cellsZ b, c.at_ = d.at_ := by
  constructor
  · rintro ⟨r, hr, h1, h2⟩
    obtain ⟨x, hx, e⟩ := parts_of hr
    have ok := ptOf_ok ha hb h hx
    rw [e] at ok
    have hlt := ok.lt
    have na : r.a ≠ [] := by
      rcases ok.ca with ⟨e, -⟩ | ⟨-, e⟩
      · omega
      · intro e2; rw [e2] at e; simp at e; omega
    have nb : r.b ≠ [] := by
      rcases ok.cb with ⟨e, -⟩ | ⟨-, e⟩
      · omega
      · intro e2; rw [e2] at e; simp at e; omega
    obtain ⟨c, hc, ec⟩ := cellsAt_head (q := r.p) (a := r.at_) na
    obtain ⟨d, hd, ed⟩ := cellsAt_head (q := r.q) (a := r.at_) nb
    rw [← ok.wa] at hc
    rw [← ok.wb] at hd
    exact ⟨c, (mem_win.1 hc).1, d, (mem_win.1 hd).1, ec.trans ed.symm⟩
  · rintro ⟨c, hc, d, hd, e⟩
    obtain ⟨x, hx, h1, h2⟩ := h.cover (.inl hc)
    have ok := ptOf_ok ha hb h hx
    have e1 := (ok.pa c.at_ h1 h2).1
    have e2 := (ok.pb c.at_ h1 h2).1
    rw [protAt_mem ha.up hc] at e1
    rw [e, protAt_mem hb.up hd] at e2
    have p1 := (ha.lows c hc).2.2
    have p2 := (hb.lows d hd).2.2
    refine ⟨ptOf a b x, ?_, by omega, by omega⟩
    unfold partsZ
    exact List.mem_filter.2 ⟨List.mem_map.2 ⟨x, hx, rfl⟩, by simp only [decide_eq_true_eq]; omega⟩
/-- Have they a byte at the same address? -/
def meetZ (a b : List Pz) : Bool := (cellsZ a).any fun c => (cellsZ b).any fun d => c.at_ == d.at_
theorem meetZ_iff {a b : List Pz} : meetZ a b = true ↔ ∃ c ∈ cellsZ a, ∃ d ∈ cellsZ b, c.at_ = d.at_ := by simp [meetZ]
end Go.Proofs.YtjfkgdfmkofbmaaGreatDoor

namespace Go.Proofs.YtjfkgdfmkofbmaaGreatDoor
set_option linter.unusedSimpArgs false
set_option linter.unusedVariables false

/-- Bytes that may be laid: rising, each one protected. -/
structure OkC (l : List Cz) : Prop where
  up : Up l
  ok : ∀ c ∈ l, c.at_ < MAXA ∧ 1 ≤ c.prot ∧ c.prot ≤ 7
theorem cells_push (out : List Pz) (c : Cz) : cellsZ (pushC out c) = cellsZ out ++ [c] := by
  have one : ∀ p : Pz, cellsZ [p] = p.cells := fun p => by unfold cellsZ; simp
  have app : ∀ l m : List Pz, cellsZ (l ++ m) = cellsZ l ++ cellsZ m := fun l m => by unfold cellsZ; rw [List.flatMap_append]
  rcases last_cases out with rfl | ⟨m, p, rfl⟩
  · rfl
  · rw [pushC_snoc]
    split
    · rename_i e
      rw [app, one, app, one]
      show cellsZ m ++ cellsAt p.prot p.at_ (p.bytes ++ [c.b]) = _
      rw [cellsAt_append, List.append_assoc]
      have : cellsAt p.prot (p.at_ + p.bytes.length) [c.b] = [c] := by
        obtain ⟨e1, e2⟩ := e
        unfold Pz.end_ at e1
        rw [e1, e2]; rfl
      rw [this]; rfl
    · rw [app, one]; rfl
theorem cells_pieces (l : List Cz) : cellsZ (piecesZ l) = l := by
  refine list_snoc_ind (P := fun l => cellsZ (piecesZ l) = l) rfl (fun l c ih => ?_) l
  rw [pieces_snoc, cells_push, ih]
def lastEnd : Nat → List Pz → Nat
  | n, [] => n
  | _, p :: l => lastEnd p.end_ l
theorem lastEnd_snoc : ∀ (n : Nat) (l : List Pz) (p : Pz), lastEnd n (l ++ [p]) = p.end_
  | n, [], p => rfl
  | n, q :: l, p => by rw [List.cons_append, lastEnd, lastEnd_snoc]
theorem mayFrom_append : ∀ (n : Nat) (l m : List Pz), mayFrom n (l ++ m) = (mayFrom n l && mayFrom (lastEnd n l) m)
  | n, [], m => by simp [mayFrom, lastEnd]
  | n, p :: l, m => by rw [List.cons_append, mayFrom, mayFrom_append, mayFrom, lastEnd]; simp only [Bool.and_assoc]
theorem may_pieces (l : List Cz) (h : OkC l) : mayZ (piecesZ l) = true := by
  revert h
  refine list_snoc_ind (P := fun l => OkC l → mayZ (piecesZ l) = true) (fun _ => rfl) (fun l c ih hl => ?_) l
  have hu := List.pairwise_append.1 hl.up
  have hc := hl.ok c (by simp)
  have ih := ih ⟨hu.1, fun x hx => hl.ok x (by simp [hx])⟩
  rw [pieces_snoc]
  rcases List.eq_nil_or_concat l with h0 | ⟨l', d, h0⟩
  · subst h0
    show mayFrom 0 [⟨c.at_, c.prot, [c.b]⟩] = true
    simp only [mayFrom, Pz.end_, Bool.and_true, Bool.and_eq_true, decide_eq_true_eq, List.length_cons, List.length_nil]
    obtain ⟨q1, q2, q3⟩ := hc
    exact ⟨⟨⟨⟨⟨by decide, q2⟩, q3⟩, Nat.zero_le _⟩, Nat.le_of_lt q1⟩, decide_eq_true q1⟩
  · rw [List.concat_eq_append] at h0
    subst h0
    have hdc : d.at_ < c.at_ := hu.2.2 d (by simp) c (by simp)
    obtain ⟨m, p, e, e1, e2⟩ := pieces_last l' d
    rw [e] at ih ⊢
    rw [pushC_snoc]
    unfold mayZ at ih ⊢
    rw [mayFrom_append] at ih
    rw [Bool.and_eq_true] at ih
    obtain ⟨i1, i2⟩ := ih
    simp only [mayFrom, Bool.and_true, Bool.and_eq_true, decide_eq_true_eq] at i2
    obtain ⟨⟨⟨⟨⟨k1, k2⟩, k3⟩, k4⟩, k5⟩, k6⟩ := i2
    split
    · rename_i he
      rw [mayFrom_append, i1]
      simp only [mayFrom, Bool.and_true, Bool.and_eq_true, decide_eq_true_eq, Bool.true_and]
      unfold Pz.end_ at he k6 ⊢
      dsimp only
      rw [List.length_append, List.length_singleton]
      refine ⟨⟨⟨⟨⟨?_, ?_⟩, ?_⟩, ?_⟩, ?_⟩, ?_⟩ <;> omega
    · rw [mayFrom_append, mayFrom_append, i1, lastEnd_snoc]
      simp only [mayFrom, Bool.and_true, Bool.and_eq_true, decide_eq_true_eq, Bool.true_and]
      refine ⟨⟨⟨⟨⟨⟨k1, k2⟩, k3⟩, k4⟩, k5⟩, k6⟩, ⟨⟨⟨⟨?_, ?_⟩, ?_⟩, ?_⟩, ?_⟩, ?_⟩
      all_goals (try unfold Pz.end_)
      all_goals (try dsimp only)
      all_goals (try rw [List.length_singleton])
      all_goals (try unfold Pz.end_ at e1)
      all_goals (obtain ⟨q1, q2, q3⟩ := hc)
      all_goals omega
theorem okC_of {l : List Pz} (h : mayZ l = true) : OkC (cellsZ l) := by
  have hs := srt_of_may h
  refine ⟨hs.up, fun c hc => ?_⟩
  have := hs.lows c hc
  refine ⟨this.2.1, this.2.2, ?_⟩
  obtain ⟨p, hp, hcp⟩ := List.mem_flatMap.1 hc
  have key : ∀ {l : List Pz} {n : Nat}, mayFrom n l = true → ∀ p ∈ l, p.prot ≤ 7 := by
    intro l
    induction l with
    | nil => intro n _ p hp; cases hp
    | cons q l ih =>
      intro n h p hp
      rw [mayFrom] at h
      simp only [Bool.and_eq_true, decide_eq_true_eq] at h
      rcases List.mem_cons.1 hp with rfl | hp
      · exact h.1.1.1.1.2
      · exact ih h.2 p hp
  rw [(mem_cellsAt hcp).2.2]
  exact key h p hp

theorem mem_cellsAt_iff {q : Int} {a : Nat} {l : List UInt8} {c : Cz} : c ∈ cellsAt q a l ↔ a ≤ c.at_ ∧ c.prot = q ∧ l[c.at_ - a]? = some c.b := by
  constructor
  · intro h
    obtain ⟨h1, h2, h3⟩ := mem_cellsAt h
    refine ⟨h1, h3, ?_⟩
    obtain ⟨b, hb⟩ : ∃ b, l[c.at_ - a]? = some b := ⟨_, List.getElem?_eq_getElem (by omega)⟩
    have hm := List.mem_of_getElem? (cellsAt_get q a l _ _ hb)
    have e : (⟨a + (c.at_ - a), q, b⟩ : Cz) = c := by
      have u := up_cellsAt q a l
      have f1 := byteAt_mem u h
      have f2 := byteAt_mem u hm
      dsimp only at f2
      rw [show a + (c.at_ - a) = c.at_ by omega, f1] at f2
      obtain ⟨ca, cp, cb⟩ := c
      dsimp only at h1 h3 f2 ⊢
      rw [← Option.some.inj f2, h3, show a + (ca - a) = ca by omega]
    rw [hb, ← e]
  · rintro ⟨h1, rfl, h3⟩
    have hm := List.mem_of_getElem? (cellsAt_get c.prot a l _ _ h3)
    rw [show a + (c.at_ - a) = c.at_ by omega] at hm
    exact hm
theorem protAt_pos {l : List Cz} (h : OkC l) {a : Nat} : protAt l a ≠ 0 ↔ ∃ c ∈ l, c.at_ = a := by
  constructor
  · intro hp
    by_cases he : ∃ c ∈ l, c.at_ = a
    · exact he
    · exact absurd (protAt_none (fun c hc e => he ⟨c, hc, e⟩)) hp
  · rintro ⟨c, hc, rfl⟩
    rw [protAt_mem h.up hc]
    have := (h.ok c hc).2.1
    omega
theorem protAt_zero {l : List Cz} (h : OkC l) {a : Nat} : protAt l a = 0 ↔ ∀ c ∈ l, c.at_ ≠ a := by
  constructor
  · intro h0 c hc e
    exact (protAt_pos h).2 ⟨c, hc, e⟩ h0
  · exact protAt_none
theorem byteAt_some {l : List Cz} (h : Up l) {a : Nat} {b : UInt8} : byteAt l a = some b ↔ ∃ c ∈ l, c.at_ = a ∧ c.b = b := by
  constructor
  · intro hb
    by_cases he : ∃ c ∈ l, c.at_ = a
    · obtain ⟨c, hc, e⟩ := he
      have := byteAt_mem h hc
      rw [e, hb] at this
      exact ⟨c, hc, e, (Option.some.inj this).symm⟩
    · rw [byteAt_none (fun c hc e => he ⟨c, hc, e⟩)] at hb
      cases hb
  · rintro ⟨c, hc, rfl, rfl⟩
    exact byteAt_mem h hc

/-- Puts, one a window. -/
theorem fold_puts (st : List Pz → Pt → List Pz) (g : Pt → List Cz) : ∀ (l : List Pt), (∀ r ∈ l, ∀ out, st out r = (g r).foldl pushC out) → ∀ out, l.foldl st out = (l.flatMap g).foldl pushC out
  | [], _, out => rfl
  | r :: l, h, out => by
    rw [List.foldl_cons, h r List.mem_cons_self, fold_puts st g l (fun x hx => h x (List.mem_cons_of_mem _ hx)), List.flatMap_cons, List.foldl_append]
theorem part_mem {a b : List Pz} {bs : List Nat} (ha : Srt 0 a) (hb : Srt 0 b) (h : Bnds bs a b) {x : Nat × Nat} (hx : x ∈ pairsZ bs) (hn : ptOf a b x ∉ partsZ a b bs) : (ptOf a b x).a = [] ∧ (ptOf a b x).b = [] := by
  have ok := ptOf_ok ha hb h hx
  have hz : ¬ 0 < (ptOf a b x).p + (ptOf a b x).q := fun hp => hn (List.mem_filter.2 ⟨List.mem_map.2 ⟨x, hx, rfl⟩, decide_eq_true hp⟩)
  rcases ok.ca with ⟨k1, k2⟩ | ⟨k1, k2⟩ <;> rcases ok.cb with ⟨m1, m2⟩ | ⟨m1, m2⟩
  · exact ⟨k2, m2⟩
  · omega
  · omega
  · omega

section
variable {a b : List Pz} {bs : List Nat}
/-- Is a window's part missing? -/
def missP (r : Pt) : Bool := decide (0 < r.q) && (r.p != r.q || r.a != r.b)
def missC (A B : List Cz) : Bool := B.any fun c => !A.contains c
theorem missC_iff {A B : List Cz} : missC A B = true ↔ ∃ c ∈ B, c ∉ A := by
  unfold missC
  rw [List.any_eq_true]
  constructor
  · rintro ⟨c, hc, h⟩; exact ⟨c, hc, by simpa using h⟩
  · rintro ⟨c, hc, h⟩; exact ⟨c, hc, by simpa using h⟩
theorem miss_parts (ha : Srt 0 a) (hb : Srt 0 b) (h : Bnds bs a b) : (∃ r ∈ partsZ a b bs, missP r = true) ↔ missC (cellsZ a) (cellsZ b) = true := by
  rw [missC_iff]
  constructor
  · rintro ⟨r, hr, hm⟩
    obtain ⟨x, hx, rfl⟩ := parts_of hr
    have ok := ptOf_ok ha hb h hx
    have hlt := ok.lt
    by_cases he : ∃ c ∈ cellsZ b, c ∉ cellsZ a
    · exact he
    · exfalso
      have all : ∀ c ∈ cellsZ b, c ∈ cellsZ a := fun c hc => Classical.not_not.1 (fun hn => he ⟨c, hc, hn⟩)
      unfold missP at hm
      rw [Bool.and_eq_true, decide_eq_true_eq] at hm
      obtain ⟨hq, hm⟩ := hm
      rcases ok.cb with ⟨m1, m2⟩ | ⟨m1, m2⟩
      · omega
      have sub : ∀ (i : Nat) (y : UInt8), (ptOf a b x).b[i]? = some y → (ptOf a b x).p = (ptOf a b x).q ∧ (ptOf a b x).a[i]? = some y := by
        intro i y hi
        have hil := (List.getElem?_eq_some_iff.1 hi).1
        have hc := List.mem_of_getElem? (cellsAt_get (ptOf a b x).q (ptOf a b x).at_ _ _ _ hi)
        rw [← ok.wb] at hc
        obtain ⟨h1, h2, h3⟩ := mem_win.1 hc
        have hw : _ ∈ win x.1 x.2 (cellsZ a) := mem_win.2 ⟨all _ h1, h2, h3⟩
        rw [ok.wa] at hw
        obtain ⟨-, g2, g3⟩ := mem_cellsAt_iff.1 hw
        dsimp only at g2 g3
        rw [Nat.add_sub_cancel_left] at g3
        exact ⟨g2.symm, g3⟩
      have h0 := sub 0 _ (List.getElem?_eq_getElem (show 0 < (ptOf a b x).b.length by omega))
      have hlen : (ptOf a b x).a.length = (ptOf a b x).b.length := by
        rcases ok.ca with ⟨k1, k2⟩ | ⟨k1, k2⟩
        · rw [k2] at h0; simp at h0
        · omega
      have hab : (ptOf a b x).a = (ptOf a b x).b := List.ext_getElem? (fun i => by
        by_cases hi : i < (ptOf a b x).b.length
        · rw [List.getElem?_eq_getElem hi]; exact (sub i _ (List.getElem?_eq_getElem hi)).2
        · rw [List.getElem?_eq_none (by omega), List.getElem?_eq_none (by omega)])
      rw [hab, h0.1] at hm
      simp at hm
  · rintro ⟨c, hc, hn⟩
    obtain ⟨x, hx, h1, h2⟩ := h.cover (.inr hc)
    have ok := ptOf_ok ha hb h hx
    have hw : c ∈ win x.1 x.2 (cellsZ b) := mem_win.2 ⟨hc, h1, h2⟩
    rw [ok.wb] at hw
    have hp := (mem_cellsAt hw).2.2
    have hpos := (hb.lows c hc).2.2
    refine ⟨ptOf a b x, Classical.byContradiction (fun hnm => ?_), ?_⟩
    · have := (part_mem ha hb h hx hnm).2
      rw [this] at hw; cases hw
    · unfold missP
      rw [Bool.and_eq_true, decide_eq_true_eq]
      refine ⟨by omega, ?_⟩
      rw [Bool.or_eq_true, bne_iff_ne, bne_iff_ne]
      by_cases e1 : (ptOf a b x).p = (ptOf a b x).q
      · refine .inr (fun e2 => hn ?_)
        rw [← e1, ← e2, ← ok.wa] at hw
        exact (mem_win.1 hw).1
      · exact .inl e1

/-- What is left. -/
def leftS (out : List Pz) (r : Pt) : List Pz := if r.q = 0 then putP out r.at_ r.p r.a else out
def leftW (r : Pt) : List Cz := if r.q = 0 then cellsAt r.p r.at_ r.a else []
def minusC (A B : List Cz) : List Cz := A.filter fun c => protAt B c.at_ == 0
theorem up_filter {l : List Cz} (h : Up l) (f : Cz → Bool) : Up (l.filter f) := List.Pairwise.filter f h
theorem left_is (ha : Srt 0 a) (hb : Srt 0 b) (h : Bnds bs a b) : (partsZ a b bs).foldl leftS [] = piecesZ (minusC (cellsZ a) (cellsZ b)) := by
  have hf := parts_full ha hb h
  rw [fold_puts leftS leftW (partsZ a b bs) (fun r hr out => by
    obtain ⟨f1, f2, f3, f4, f5, f6⟩ := hf r hr
    unfold leftS leftW
    by_cases hq : r.q = 0
    · rw [if_pos hq, if_pos hq, putP_cells _ _ _ _ (f1 (by omega))]
    · rw [if_neg hq, if_neg hq]; rfl) []]
  obtain ⟨u, m⟩ := parts_cells ha hb h leftW (fun c => c ∈ cellsZ a ∧ protAt (cellsZ b) c.at_ = 0) (fun x r ok => by
    unfold leftW
    by_cases hq : r.q = 0
    · rw [if_pos hq]
      refine ⟨up_cellsAt _ _ _, fun c => ?_⟩
      rw [← ok.wa, mem_win]
      exact ⟨fun ⟨g1, g2, g3⟩ => ⟨g2, g3, g1, by rw [(ok.pb _ g2 g3).1, hq]⟩, fun ⟨g1, g2, g3, g4⟩ => ⟨g3, g1, g2⟩⟩
    · rw [if_neg hq]
      refine ⟨List.Pairwise.nil, fun c => ⟨fun hc => (by cases hc), fun ⟨g1, g2, g3, g4⟩ => ?_⟩⟩
      rw [(ok.pb _ g1 g2).1] at g4
      exact absurd g4 hq) (fun c hc => ⟨c, .inl hc.1, rfl⟩)
  show piecesZ ((partsZ a b bs).flatMap leftW) = _
  congr 1
  refine up_ext u (up_filter ha.up _) (fun c => (m c).trans ?_)
  unfold minusC
  rw [List.mem_filter, beq_iff_eq]

/-- Are bytes other ones? -/
def othP (r : Pt) : Bool := decide (0 < r.q) && r.a != r.b
def othC (A B : List Cz) : Bool := B.any fun c => byteAt A c.at_ != some c.b
theorem othC_iff {A B : List Cz} : othC A B = true ↔ ∃ c ∈ B, byteAt A c.at_ ≠ some c.b := by
  unfold othC
  rw [List.any_eq_true]
  simp only [bne_iff_ne]
theorem oth_parts (ha : Srt 0 a) (hb : Srt 0 b) (h : Bnds bs a b) : (∃ r ∈ partsZ a b bs, othP r = true) ↔ othC (cellsZ a) (cellsZ b) = true := by
  rw [othC_iff]
  constructor
  · rintro ⟨r, hr, hm⟩
    obtain ⟨x, hx, rfl⟩ := parts_of hr
    have ok := ptOf_ok ha hb h hx
    have hlt := ok.lt
    by_cases he : ∃ c ∈ cellsZ b, byteAt (cellsZ a) c.at_ ≠ some c.b
    · exact he
    · exfalso
      have all : ∀ c ∈ cellsZ b, byteAt (cellsZ a) c.at_ = some c.b := fun c hc => Classical.not_not.1 (fun hn => he ⟨c, hc, hn⟩)
      unfold othP at hm
      rw [Bool.and_eq_true, decide_eq_true_eq, bne_iff_ne] at hm
      obtain ⟨hq, hm⟩ := hm
      rcases ok.cb with ⟨m1, m2⟩ | ⟨m1, m2⟩
      · omega
      have sub : ∀ (i : Nat) (y : UInt8), (ptOf a b x).b[i]? = some y → (ptOf a b x).a[i]? = some y := by
        intro i y hi
        have hil := (List.getElem?_eq_some_iff.1 hi).1
        have hc := List.mem_of_getElem? (cellsAt_get (ptOf a b x).q (ptOf a b x).at_ _ _ _ hi)
        rw [← ok.wb] at hc
        obtain ⟨h1, h2, h3⟩ := mem_win.1 hc
        have g := all _ h1
        dsimp only at g h2 h3
        rw [(ok.pa _ h2 h3).2] at g
        have e := ok.at_
        rw [show (ptOf a b x).at_ + i - x.1 = i by omega] at g
        exact g
      have h0 := sub 0 _ (List.getElem?_eq_getElem (show 0 < (ptOf a b x).b.length by omega))
      have hlen : (ptOf a b x).a.length = (ptOf a b x).b.length := by
        rcases ok.ca with ⟨k1, k2⟩ | ⟨k1, k2⟩
        · rw [k2] at h0; simp at h0
        · omega
      exact hm (List.ext_getElem? (fun i => by
        by_cases hi : i < (ptOf a b x).b.length
        · rw [List.getElem?_eq_getElem hi]; exact sub i _ (List.getElem?_eq_getElem hi)
        · rw [List.getElem?_eq_none (by omega), List.getElem?_eq_none (by omega)]))
  · rintro ⟨c, hc, hn⟩
    obtain ⟨x, hx, h1, h2⟩ := h.cover (.inr hc)
    have ok := ptOf_ok ha hb h hx
    have hw : c ∈ win x.1 x.2 (cellsZ b) := mem_win.2 ⟨hc, h1, h2⟩
    rw [ok.wb] at hw
    have hp := (mem_cellsAt hw).2.2
    have hpos := (hb.lows c hc).2.2
    refine ⟨ptOf a b x, Classical.byContradiction (fun hnm => ?_), ?_⟩
    · have := (part_mem ha hb h hx hnm).2
      rw [this] at hw; cases hw
    · unfold othP
      rw [Bool.and_eq_true, decide_eq_true_eq, bne_iff_ne]
      refine ⟨by omega, fun e => hn ?_⟩
      rw [(ok.pa _ h1 h2).2, e, ← (ok.pb _ h1 h2).2]
      exact byteAt_mem hb.up hc

/-- What is patched. -/
def patS (out : List Pz) (r : Pt) : List Pz := putP out r.at_ r.p (if 0 < r.q then r.b else r.a)
def patW (r : Pt) : List Cz := cellsAt r.p r.at_ (if 0 < r.q then r.b else r.a)
def patC (A B : List Cz) : List Cz := A.map fun d => ⟨d.at_, d.prot, (byteAt B d.at_).getD d.b⟩
theorem up_patC {A B : List Cz} (h : Up A) : Up (patC A B) := by
  unfold patC Up
  rw [List.pairwise_map]
  exact h
def HasAll (A B : List Cz) : Prop := ∀ c ∈ B, protAt A c.at_ ≠ 0
theorem has_part {x : Nat × Nat} {r : Pt} {A B : List Cz} (ok : PtOk A B x r) (hh : HasAll A B) (hq : 0 < r.q) : r.p ≠ 0 := by
  rcases ok.cb with ⟨m1, m2⟩ | ⟨m1, m2⟩
  · omega
  have hlt := ok.lt
  obtain ⟨y, hy⟩ : ∃ y, r.b[0]? = some y := ⟨_, List.getElem?_eq_getElem (by omega)⟩
  have hc := List.mem_of_getElem? (cellsAt_get r.q r.at_ _ _ _ hy)
  rw [← ok.wb] at hc
  obtain ⟨h1, h2, h3⟩ := mem_win.1 hc
  have := hh _ h1
  dsimp only at this h2 h3
  rwa [(ok.pa _ h2 h3).1] at this
theorem pat_pos (ha : Srt 0 a) (hb : Srt 0 b) (h : Bnds bs a b) (hh : HasAll (cellsZ a) (cellsZ b)) : ∀ r ∈ partsZ a b bs, 0 < r.p := by
  intro r hr
  obtain ⟨f1, f2, f3, f4, f5, f6⟩ := parts_full ha hb h r hr
  by_cases hq : 0 < r.q
  · obtain ⟨x, hx, e⟩ := parts_of hr
    have ok := ptOf_ok ha hb h hx
    rw [e] at ok
    have := has_part ok hh hq
    omega
  · omega
theorem pat_is (ha : Srt 0 a) (hb : Srt 0 b) (h : Bnds bs a b) (hh : HasAll (cellsZ a) (cellsZ b)) : (partsZ a b bs).foldl patS [] = piecesZ (patC (cellsZ a) (cellsZ b)) := by
  have hf := parts_full ha hb h
  have hp0 := pat_pos ha hb h hh
  rw [fold_puts patS patW (partsZ a b bs) (fun r hr out => by
    obtain ⟨f1, f2, f3, f4, f5, f6⟩ := hf r hr
    unfold patS patW
    rw [putP_cells _ _ _ _ (by
      by_cases hq : 0 < r.q
      · rw [if_pos hq]; exact f2 hq
      · rw [if_neg hq]; exact f1 (hp0 r hr))]) []]
  obtain ⟨u, m⟩ := parts_cells ha hb h patW (fun c => ∃ d ∈ cellsZ a, d.at_ = c.at_ ∧ d.prot = c.prot ∧ (byteAt (cellsZ b) d.at_).getD d.b = c.b) (fun x r ok => by
    unfold patW
    refine ⟨up_cellsAt _ _ _, fun c => ?_⟩
    have eat := ok.at_
    by_cases hq : 0 < r.q
    · rw [if_pos hq]
      have hp := has_part ok hh hq
      rcases ok.ca with ⟨k1, k2⟩ | ⟨k1, k2⟩
      · exact absurd k1 hp
      rcases ok.cb with ⟨m1, m2⟩ | ⟨m1, m2⟩
      · omega
      constructor
      · intro hc
        obtain ⟨g1, g2, g3⟩ := mem_cellsAt_iff.1 hc
        have gl := (List.getElem?_eq_some_iff.1 g3).1
        have w1 : x.1 ≤ c.at_ := by omega
        have w2 : c.at_ < x.2 := by omega
        obtain ⟨y, hy⟩ : ∃ y, r.a[c.at_ - r.at_]? = some y := ⟨_, List.getElem?_eq_getElem (by omega)⟩
        have hd : (⟨c.at_, r.p, y⟩ : Cz) ∈ win x.1 x.2 (cellsZ a) := by
          rw [ok.wa]; exact mem_cellsAt_iff.2 ⟨g1, rfl, hy⟩
        refine ⟨w1, w2, ⟨c.at_, r.p, y⟩, (mem_win.1 hd).1, rfl, g2.symm, ?_⟩
        dsimp only
        rw [(ok.pb _ w1 w2).2, ← eat, g3]; rfl
      · rintro ⟨w1, w2, d, hd, e1, e2, e3⟩
        have hw : d ∈ win x.1 x.2 (cellsZ a) := mem_win.2 ⟨hd, by omega, by omega⟩
        rw [ok.wa] at hw
        obtain ⟨g1, g2, g3⟩ := mem_cellsAt_iff.1 hw
        refine mem_cellsAt_iff.2 ⟨by omega, by rw [← e2, g2], ?_⟩
        rw [(ok.pb _ (by omega) (by omega)).2] at e3
        obtain ⟨y, hy⟩ : ∃ y, r.b[c.at_ - r.at_]? = some y := ⟨_, List.getElem?_eq_getElem (by omega)⟩
        rw [e1, ← eat, hy] at e3
        rw [hy]
        exact congrArg some e3
    · rw [if_neg hq]
      have hb0 : r.q = 0 ∧ r.b = [] := by
        rcases ok.cb with h | ⟨m1, m2⟩
        · exact h
        · omega
      rw [← ok.wa, mem_win]
      constructor
      · rintro ⟨g1, g2, g3⟩
        refine ⟨g2, g3, c, g1, rfl, rfl, ?_⟩
        rw [(ok.pb _ g2 g3).2, hb0.2]; rfl
      · rintro ⟨w1, w2, d, hd, e1, e2, e3⟩
        rw [(ok.pb _ (by omega) (by omega)).2, hb0.2] at e3
        obtain ⟨da, dp, db⟩ := d
        obtain ⟨ca, cp, cb⟩ := c
        dsimp only at e1 e2 e3
        simp only [List.getElem?_nil, Option.getD_none] at e3
        subst e1 e2 e3
        exact ⟨hd, w1, w2⟩) (fun c hc => by
      obtain ⟨d, hd, e, -⟩ := hc
      exact ⟨d, .inl hd, e⟩)
  show piecesZ ((partsZ a b bs).flatMap patW) = _
  congr 1
  refine up_ext u (up_patC ha.up) (fun c => (m c).trans ?_)
  unfold patC
  rw [List.mem_map]
  constructor
  · rintro ⟨d, hd, e1, e2, e3⟩
    exact ⟨d, hd, by rw [e1, e2]; rw [e1] at e3; rw [e3]⟩
  · rintro ⟨d, hd, rfl⟩
    exact ⟨d, hd, rfl, rfl, rfl⟩

/-- Both together. -/
def outS (out : List Pz) (r : Pt) : List Pz := putP out r.at_ (r.p + r.q) (r.a ++ r.b)
def outW (r : Pt) : List Cz := cellsAt (r.p + r.q) r.at_ (r.a ++ r.b)
def meetC (A B : List Cz) : Bool := A.any fun c => B.any fun d => c.at_ == d.at_
theorem meetC_iff {A B : List Cz} : meetC A B = true ↔ ∃ c ∈ A, ∃ d ∈ B, c.at_ = d.at_ := by simp [meetC]
def mergeC : List Cz → List Cz → List Cz
  | [], y => y
  | x, [] => x
  | c :: x, d :: y => if c.at_ < d.at_ then c :: mergeC x (d :: y) else d :: mergeC (c :: x) y
termination_by x y => x.length + y.length
theorem mem_mergeC {e : Cz} : ∀ (x y : List Cz), e ∈ mergeC x y ↔ e ∈ x ∨ e ∈ y
  | [], y => by unfold mergeC; simp
  | c :: x, [] => by unfold mergeC; simp
  | c :: x, d :: y => by
    unfold mergeC
    split
    · rw [List.mem_cons, mem_mergeC x (d :: y), List.mem_cons (l := x), or_assoc]
    · rw [List.mem_cons, mem_mergeC (c :: x) y, List.mem_cons (l := y)]
      constructor
      · rintro (h | h | h)
        · exact .inr (.inl h)
        · exact .inl h
        · exact .inr (.inr h)
      · rintro (h | h | h)
        · exact .inr (.inl h)
        · exact .inl h
        · exact .inr (.inr h)
termination_by x y => x.length + y.length
theorem up_mergeC : ∀ (x y : List Cz), Up x → Up y → meetC x y = false → Up (mergeC x y)
  | [], y, _, hy, _ => by unfold mergeC; exact hy
  | c :: x, [], hx, _, _ => by unfold mergeC; exact hx
  | c :: x, d :: y, hx, hy, hn => by
    have hne : ∀ e ∈ c :: x, ∀ f ∈ d :: y, e.at_ ≠ f.at_ := fun e he f hf h => by
      have : meetC (c :: x) (d :: y) = true := meetC_iff.2 ⟨e, he, f, hf, h⟩
      rw [hn] at this; cases this
    have low : ∀ {x y : List Cz}, (∀ e ∈ x, ∀ f ∈ y, e.at_ ≠ f.at_) → meetC x y = false := fun h => by
      rw [← Bool.not_eq_true, meetC_iff]
      rintro ⟨e, he, f, hf, h2⟩
      exact h e he f hf h2
    unfold mergeC
    split
    · rename_i hlt
      refine List.Pairwise.cons (fun e he => ?_) (up_mergeC x (d :: y) (List.Pairwise.of_cons hx) hy (low (fun e he f hf => hne e (List.mem_cons_of_mem _ he) f hf)))
      rcases (mem_mergeC _ _).1 he with he | he
      · exact List.rel_of_pairwise_cons hx he
      · rcases List.mem_cons.1 he with rfl | he
        · exact hlt
        · have : d.at_ < e.at_ := List.rel_of_pairwise_cons hy he
          show c.at_ < e.at_
          omega
    · rename_i hlt
      have h1 := hne c List.mem_cons_self d List.mem_cons_self
      refine List.Pairwise.cons (fun e he => ?_) (up_mergeC (c :: x) y hx (List.Pairwise.of_cons hy) (low (fun e he f hf => hne e he f (List.mem_cons_of_mem _ hf))))
      show d.at_ < e.at_
      rcases (mem_mergeC _ _).1 he with he | he
      · rcases List.mem_cons.1 he with rfl | he
        · omega
        · have : c.at_ < e.at_ := List.rel_of_pairwise_cons hx he
          omega
      · exact List.rel_of_pairwise_cons hy he
termination_by x y => x.length + y.length
theorem one_part {x : Nat × Nat} {r : Pt} {A B : List Cz} (ok : PtOk A B x r) (hn : meetC A B = false) : (r.p = 0 ∧ r.a = []) ∨ (r.q = 0 ∧ r.b = []) := by
  rcases ok.ca with h | ⟨k1, k2⟩
  · exact .inl h
  rcases ok.cb with h | ⟨m1, m2⟩
  · exact .inr h
  exfalso
  have hlt := ok.lt
  obtain ⟨c, hc, ec⟩ := cellsAt_head (q := r.p) (a := r.at_) (l := r.a) (fun e => by rw [e] at k2; simp at k2; omega)
  obtain ⟨d, hd, ed⟩ := cellsAt_head (q := r.q) (a := r.at_) (l := r.b) (fun e => by rw [e] at m2; simp at m2; omega)
  rw [← ok.wa] at hc
  rw [← ok.wb] at hd
  have : meetC A B = true := meetC_iff.2 ⟨c, (mem_win.1 hc).1, d, (mem_win.1 hd).1, ec.trans ed.symm⟩
  rw [hn] at this; cases this
theorem out_is (ha : Srt 0 a) (hb : Srt 0 b) (h : Bnds bs a b) (hn : meetC (cellsZ a) (cellsZ b) = false) : (partsZ a b bs).foldl outS [] = piecesZ (mergeC (cellsZ a) (cellsZ b)) := by
  have hf := parts_full ha hb h
  rw [fold_puts outS outW (partsZ a b bs) (fun r hr out => by
    obtain ⟨f1, f2, f3, f4, f5, f6⟩ := hf r hr
    unfold outS outW
    rw [putP_cells _ _ _ _ (by
      intro e
      rw [List.append_eq_nil_iff] at e
      by_cases hp : 0 < r.p
      · exact f1 hp e.1
      · exact f2 (by omega) e.2)]) []]
  obtain ⟨u, m⟩ := parts_cells ha hb h outW (fun c => c ∈ cellsZ a ∨ c ∈ cellsZ b) (fun x r ok => by
    unfold outW
    refine ⟨up_cellsAt _ _ _, fun c => ?_⟩
    have ea : c ∈ cellsAt r.p r.at_ r.a ↔ c ∈ cellsZ a ∧ x.1 ≤ c.at_ ∧ c.at_ < x.2 := by rw [← ok.wa, mem_win]
    have eb : c ∈ cellsAt r.q r.at_ r.b ↔ c ∈ cellsZ b ∧ x.1 ≤ c.at_ ∧ c.at_ < x.2 := by rw [← ok.wb, mem_win]
    rcases one_part ok hn with ⟨e1, e2⟩ | ⟨e1, e2⟩
    · rw [e2] at ea ⊢
      rw [e1, Int.zero_add, List.nil_append, eb]
      constructor
      · rintro ⟨g1, g2, g3⟩; exact ⟨g2, g3, .inr g1⟩
      · rintro ⟨g1, g2, g3 | g3⟩
        · exact absurd (ea.2 ⟨g3, g1, g2⟩) (by simp [cellsAt])
        · exact ⟨g3, g1, g2⟩
    · rw [e2] at eb ⊢
      rw [e1, Int.add_zero, List.append_nil, ea]
      constructor
      · rintro ⟨g1, g2, g3⟩; exact ⟨g2, g3, .inl g1⟩
      · rintro ⟨g1, g2, g3 | g3⟩
        · exact ⟨g3, g1, g2⟩
        · exact absurd (eb.2 ⟨g3, g1, g2⟩) (by simp [cellsAt])) (fun c hc => by
      rcases hc with hc | hc
      · exact ⟨c, .inl hc, rfl⟩
      · exact ⟨c, .inr hc, rfl⟩)
  show piecesZ ((partsZ a b bs).flatMap outW) = _
  congr 1
  exact up_ext u (up_mergeC _ _ ha.up hb.up hn) (fun c => (m c).trans (mem_mergeC _ _).symm)
end

/-- Rows laid on a memory, byte by byte: an error, or the bytes. -/
def layC (L lost gained old now : List Cz) : Int × List Cz :=
  if missC L lost = true then (17, [])
  else if othC (minusC L lost) old = true then (17, [])
  else if meetC (minusC L lost) gained = true then (21, [])
  else (0, mergeC (patC (minusC L lost) now) gained)
theorem okC_minus {A B : List Cz} (h : OkC A) : OkC (minusC A B) := ⟨up_filter h.up _, fun c hc => h.ok c (List.mem_filter.1 hc).1⟩
theorem okC_pat {A B : List Cz} (h : OkC A) : OkC (patC A B) := ⟨up_patC h.up, fun c hc => by
  unfold patC at hc
  obtain ⟨d, hd, rfl⟩ := List.mem_map.1 hc
  exact h.ok d hd⟩
theorem okC_merge {A B : List Cz} (ha : OkC A) (hb : OkC B) (hn : meetC A B = false) : OkC (mergeC A B) := ⟨up_mergeC _ _ ha.up hb.up hn, fun c hc => by
  rcases (mem_mergeC _ _).1 hc with h | h
  · exact ha.ok c h
  · exact hb.ok c h⟩
theorem meet_pat {A B G : List Cz} : meetC (patC A B) G = meetC A G := by
  unfold meetC patC
  rw [List.any_map]
  rfl
end Go.Proofs.YtjfkgdfmkofbmaaGreatDoor
