/- Pieces of memory and their bytes, one by one: plain. -/
import Derived.Test.YthlnjfnjmjdohaaZPlain
namespace Go.Proofs.Ythlnjfnjmjdohaa
set_option linter.unusedSimpArgs false
set_option linter.unusedVariables false

structure Pz where
  at_ : Nat
  prot : Int
  bytes : List UInt8
structure Cz where
  at_ : Nat
  prot : Int
  b : UInt8
deriving DecidableEq

def Pz.end_ (p : Pz) : Nat := p.at_ + p.bytes.length
def cellsAt (q : Int) : Nat → List UInt8 → List Cz
  | _, [] => []
  | a, b :: l => ⟨a, q, b⟩ :: cellsAt q (a + 1) l
def Pz.cells (p : Pz) : List Cz := cellsAt p.prot p.at_ p.bytes
def cellsZ (l : List Pz) : List Cz := l.flatMap Pz.cells

theorem cellsAt_append (q : Int) : ∀ (a : Nat) (l m : List UInt8), cellsAt q a (l ++ m) = cellsAt q a l ++ cellsAt q (a + l.length) m
  | a, [], m => rfl
  | a, b :: l, m => by
    rw [List.cons_append, cellsAt, cellsAt, cellsAt_append q (a + 1) l m, List.length_cons, List.cons_append, Nat.add_assoc, Nat.add_comm 1]
theorem cellsAt_length (q : Int) : ∀ (a : Nat) (l : List UInt8), (cellsAt q a l).length = l.length
  | a, [] => rfl
  | a, b :: l => by rw [cellsAt, List.length_cons, cellsAt_length q (a + 1) l, List.length_cons]
theorem cellsAt_get (q : Int) : ∀ (a : Nat) (l : List UInt8) (k : Nat) (b : UInt8), l[k]? = some b → (cellsAt q a l)[k]? = some ⟨a + k, q, b⟩
  | a, [], k, b, h => by simp at h
  | a, x :: l, 0, b, h => by simp at h; subst h; rfl
  | a, x :: l, k + 1, b, h => by
    rw [cellsAt, List.getElem?_cons_succ, cellsAt_get q (a + 1) l k b (by simpa using h), Nat.add_assoc, Nat.add_comm 1]
theorem mem_cellsAt {q : Int} : ∀ {a : Nat} {l : List UInt8} {c : Cz}, c ∈ cellsAt q a l → a ≤ c.at_ ∧ c.at_ < a + l.length ∧ c.prot = q
  | a, [], c, h => by simp [cellsAt] at h
  | a, x :: l, c, h => by
    rw [cellsAt] at h
    rcases List.mem_cons.1 h with rfl | h
    · exact ⟨Nat.le_refl _, by simp, rfl⟩
    · obtain ⟨h1, h2, h3⟩ := mem_cellsAt h
      exact ⟨by omega, by rw [List.length_cons]; omega, h3⟩

/-- One byte more. -/
def pushC (out : List Pz) (c : Cz) : List Pz :=
  match out.getLast? with
  | none => [⟨c.at_, c.prot, [c.b]⟩]
  | some q => if q.end_ = c.at_ ∧ q.prot = c.prot then out.dropLast ++ [⟨q.at_, q.prot, q.bytes ++ [c.b]⟩] else out ++ [⟨c.at_, c.prot, [c.b]⟩]
def piecesZ (l : List Cz) : List Pz := l.foldl pushC []
/-- Bytes more. -/
def putP (out : List Pz) (a : Nat) (q : Int) (bs : List UInt8) : List Pz :=
  match out.getLast? with
  | none => [⟨a, q, bs⟩]
  | some p => if p.end_ = a ∧ p.prot = q then out.dropLast ++ [⟨p.at_, p.prot, p.bytes ++ bs⟩] else out ++ [⟨a, q, bs⟩]

theorem last_cases (out : List Pz) : out = [] ∨ ∃ l p, out = l ++ [p] := by
  rcases List.eq_nil_or_concat out with h | ⟨l, p, h⟩
  · exact .inl h
  · exact .inr ⟨l, p, by rw [h]; simp⟩
theorem putP_nil (a : Nat) (q : Int) (bs : List UInt8) : putP [] a q bs = [⟨a, q, bs⟩] := rfl
theorem putP_snoc (l : List Pz) (p : Pz) (a : Nat) (q : Int) (bs : List UInt8) : putP (l ++ [p]) a q bs = if p.end_ = a ∧ p.prot = q then l ++ [⟨p.at_, p.prot, p.bytes ++ bs⟩] else l ++ [p] ++ [⟨a, q, bs⟩] := by
  unfold putP
  simp
theorem pushC_put (out : List Pz) (c : Cz) : pushC out c = putP out c.at_ c.prot [c.b] := rfl
theorem putP_put (out : List Pz) (a : Nat) (q : Int) (b : UInt8) (bs : List UInt8) : putP (putP out a q [b]) (a + 1) q bs = putP out a q (b :: bs) := by
  rcases last_cases out with rfl | ⟨l, p, rfl⟩
  · rw [putP_nil, putP_nil, show ([⟨a, q, [b]⟩] : List Pz) = [] ++ [⟨a, q, [b]⟩] from rfl, putP_snoc, if_pos ⟨rfl, rfl⟩]
    rfl
  · rw [putP_snoc, putP_snoc]
    by_cases h : p.end_ = a ∧ p.prot = q
    · rw [if_pos h, if_pos h, putP_snoc, if_pos ⟨by have := h.1; simp only [Pz.end_] at this ⊢; simp; omega, h.2⟩]
      simp
    · rw [if_neg h, if_neg h, putP_snoc, if_pos ⟨rfl, rfl⟩]
      rfl
theorem putP_cells : ∀ (bs : List UInt8) (out : List Pz) (a : Nat) (q : Int), bs ≠ [] → putP out a q bs = (cellsAt q a bs).foldl pushC out
  | [], out, a, q, h => absurd rfl h
  | [b], out, a, q, h => rfl
  | b :: b2 :: bs, out, a, q, h => by
    rw [cellsAt, List.foldl_cons, pushC_put, ← putP_cells (b2 :: bs) _ (a + 1) q (by simp), putP_put]
theorem foldl_put (l : List Pz) (h : ∀ p ∈ l, p.bytes ≠ []) (out : List Pz) : l.foldl (fun o p => putP o p.at_ p.prot p.bytes) out = (cellsZ l).foldl pushC out := by
  induction l generalizing out with
  | nil => rfl
  | cons p l ih =>
    have e : cellsZ (p :: l) = p.cells ++ cellsZ l := rfl
    rw [List.foldl_cons, ih (fun x hx => h x (List.mem_cons_of_mem _ hx)), e, List.foldl_append, putP_cells _ _ _ _ (h p List.mem_cons_self)]
    rfl

/-- Which pieces may be. -/
def MAXA : Nat := 140737488355328
def mayFrom : Nat → List Pz → Bool
  | _, [] => true
  | last, p :: l => decide (0 < p.bytes.length) && decide (1 ≤ p.prot) && decide (p.prot ≤ 7) && decide (last ≤ p.at_) && decide (p.at_ ≤ MAXA) && decide (p.end_ ≤ MAXA) && mayFrom p.end_ l
def mayZ (l : List Pz) : Bool := mayFrom 0 l

/-- Pieces in order, none empty. -/
inductive Srt : Nat → List Pz → Prop
  | nil (n : Nat) : Srt n []
  | cons {n : Nat} {p : Pz} {l : List Pz} (h1 : p.bytes ≠ []) (h2 : 1 ≤ p.prot) (h3 : n ≤ p.at_) (h4 : p.end_ ≤ MAXA) (h : Srt p.end_ l) : Srt n (p :: l)
theorem srt_of_may : ∀ {l : List Pz} {n : Nat}, mayFrom n l = true → Srt n l
  | [], n, _ => .nil n
  | p :: l, n, h => by
    rw [mayFrom] at h
    simp only [Bool.and_eq_true, decide_eq_true_eq] at h
    obtain ⟨⟨⟨⟨⟨⟨h1, h2⟩, h3⟩, h4⟩, h5⟩, h6⟩, h7⟩ := h
    exact .cons (List.ne_nil_of_length_pos h1) h2 h4 h6 (srt_of_may h7)
theorem Srt.mono {n m : Nat} {l : List Pz} (h : Srt n l) (hm : m ≤ n) : Srt m l := by
  cases h with
  | nil => exact .nil m
  | cons h1 h2 h3 h4 h => exact .cons h1 h2 (Nat.le_trans hm h3) h4 h

/-- Bytes by rising addresses. -/
def Up (l : List Cz) : Prop := l.Pairwise (fun x y => x.at_ < y.at_)
theorem up_cellsAt (q : Int) : ∀ (a : Nat) (l : List UInt8), Up (cellsAt q a l)
  | a, [] => List.Pairwise.nil
  | a, b :: l => by
    rw [cellsAt]
    refine List.Pairwise.cons (fun c hc => ?_) (up_cellsAt q (a + 1) l)
    have := (mem_cellsAt hc).1
    show a < c.at_
    omega
theorem Srt.lows {n : Nat} {l : List Pz} (h : Srt n l) : ∀ c ∈ cellsZ l, n ≤ c.at_ ∧ c.at_ < MAXA ∧ 1 ≤ c.prot := by
  induction h with
  | nil n => intro c hc; simp [cellsZ] at hc
  | @cons n p l h1 h2 h3 h4 h ih =>
    intro c hc
    rw [cellsZ, List.flatMap_cons] at hc
    rcases List.mem_append.1 hc with hc | hc
    · obtain ⟨g1, g2, g3⟩ := mem_cellsAt hc
      unfold Pz.end_ at h4
      exact ⟨by omega, by omega, by omega⟩
    · obtain ⟨g1, g2, g3⟩ := ih c hc
      unfold Pz.end_ at g1
      exact ⟨by omega, g2, g3⟩
theorem Srt.up {n : Nat} {l : List Pz} (h : Srt n l) : Up (cellsZ l) := by
  induction h with
  | nil n => exact List.Pairwise.nil
  | @cons n p l h1 h2 h3 h4 h ih =>
    rw [cellsZ, List.flatMap_cons]
    refine List.pairwise_append.2 ⟨up_cellsAt _ _ _, ih, fun c hc d hd => ?_⟩
    have g1 := (mem_cellsAt hc).2.1
    have g2 := (h.lows d hd).1
    unfold Pz.end_ at g2
    omega

/-- The protection at an address; 0: nothing is there. -/
def protAt (l : List Cz) (a : Nat) : Int := match l.find? (fun c => c.at_ == a) with
  | some c => c.prot
  | none => 0
def byteAt (l : List Cz) (a : Nat) : Option UInt8 := (l.find? (fun c => c.at_ == a)).map Cz.b
theorem up_find {l : List Cz} (h : Up l) {c : Cz} (hc : c ∈ l) : l.find? (fun x => x.at_ == c.at_) = some c := by
  induction l with
  | nil => cases hc
  | cons d l ih =>
    rw [List.find?_cons]
    rcases List.mem_cons.1 hc with rfl | hm
    · simp
    · have hd : d.at_ < c.at_ := List.rel_of_pairwise_cons h hm
      rw [show (d.at_ == c.at_) = false by simp; omega]
      exact ih (List.Pairwise.of_cons h) hm
theorem protAt_mem {l : List Cz} (h : Up l) {c : Cz} (hc : c ∈ l) : protAt l c.at_ = c.prot := by unfold protAt; rw [up_find h hc]
theorem byteAt_mem {l : List Cz} (h : Up l) {c : Cz} (hc : c ∈ l) : byteAt l c.at_ = some c.b := by unfold byteAt; rw [up_find h hc]; rfl
theorem protAt_none {l : List Cz} {a : Nat} (h : ∀ c ∈ l, c.at_ ≠ a) : protAt l a = 0 := by
  unfold protAt
  rw [List.find?_eq_none.2 (fun c hc => by simpa using h c hc)]
theorem byteAt_none {l : List Cz} {a : Nat} (h : ∀ c ∈ l, c.at_ ≠ a) : byteAt l a = none := by
  unfold byteAt
  rw [List.find?_eq_none.2 (fun c hc => by simpa using h c hc)]
  rfl
end Go.Proofs.Ythlnjfnjmjdohaa

namespace Go.Proofs.Ythlnjfnjmjdohaa
set_option linter.unusedSimpArgs false
set_option linter.unusedVariables false

/-- Rising lists with the same members are the same. -/
theorem up_ext : ∀ {l m : List Cz}, Up l → Up m → (∀ c, c ∈ l ↔ c ∈ m) → l = m
  | [], [], _, _, _ => rfl
  | [], d :: m, _, _, h => absurd ((h d).2 List.mem_cons_self) (by simp)
  | c :: l, [], _, _, h => absurd ((h c).1 List.mem_cons_self) (by simp)
  | c :: l, d :: m, hl, hm, h => by
    have key : c = d := by
      have h1 := (h c).1 List.mem_cons_self
      have h2 := (h d).2 List.mem_cons_self
      rcases List.mem_cons.1 h1 with e | h1
      · exact e
      · rcases List.mem_cons.1 h2 with e | h2
        · exact e.symm
        · have a1 : d.at_ < c.at_ := List.rel_of_pairwise_cons hm h1
          have a2 : c.at_ < d.at_ := List.rel_of_pairwise_cons hl h2
          omega
    subst key
    rw [up_ext (List.Pairwise.of_cons hl) (List.Pairwise.of_cons hm) (fun x => ?_)]
    have hx := h x
    constructor
    · intro hxl
      rcases List.mem_cons.1 (hx.1 (List.mem_cons_of_mem _ hxl)) with e | g
      · subst e
        have : x.at_ < x.at_ := List.rel_of_pairwise_cons hl hxl
        omega
      · exact g
    · intro hxm
      rcases List.mem_cons.1 (hx.2 (List.mem_cons_of_mem _ hxm)) with e | g
      · subst e
        have : x.at_ < x.at_ := List.rel_of_pairwise_cons hm hxm
        omega
      · exact g

/-- Those between two addresses. -/
def win (f t : Nat) (l : List Cz) : List Cz := l.filter (fun c => decide (f ≤ c.at_) && decide (c.at_ < t))
theorem mem_win {f t : Nat} {l : List Cz} {c : Cz} : c ∈ win f t l ↔ c ∈ l ∧ f ≤ c.at_ ∧ c.at_ < t := by
  unfold win; rw [List.mem_filter]; simp
theorem win_none {f t : Nat} {l : List Cz} (h : ∀ c ∈ l, ¬ (f ≤ c.at_ ∧ c.at_ < t)) : win f t l = [] := by
  unfold win
  rw [List.filter_eq_nil_iff]
  intro c hc
  have := h c hc
  simpa using this
theorem win_all {f t : Nat} {l : List Cz} (h : ∀ c ∈ l, f ≤ c.at_ ∧ c.at_ < t) : win f t l = l := by
  unfold win
  rw [List.filter_eq_self]
  intro c hc
  have := h c hc
  simpa using this
theorem win_append (f t : Nat) (l m : List Cz) : win f t (l ++ m) = win f t l ++ win f t m := by unfold win; exact List.filter_append ..
theorem win_cellsAt (q : Int) (a f t : Nat) (l : List UInt8) (h1 : a ≤ f) (h2 : f ≤ t) (h3 : t ≤ a + l.length) : win f t (cellsAt q a l) = cellsAt q f ((l.drop (f - a)).take (t - f)) := by
  have e1 : l = l.take (f - a) ++ ((l.drop (f - a)).take (t - f) ++ (l.drop (f - a)).drop (t - f)) := by rw [List.take_append_drop, List.take_append_drop]
  have n1 : (l.take (f - a)).length = f - a := by rw [List.length_take]; omega
  have n2 : ((l.drop (f - a)).take (t - f)).length = t - f := by rw [List.length_take, List.length_drop]; omega
  have e2 : cellsAt q a l = cellsAt q a (l.take (f - a)) ++ (cellsAt q f ((l.drop (f - a)).take (t - f)) ++ cellsAt q t ((l.drop (f - a)).drop (t - f))) := by
    conv => lhs; rw [e1]
    rw [cellsAt_append, cellsAt_append, n1, n2, show a + (f - a) = f by omega, show f + (t - f) = t by omega]
  rw [e2, win_append, win_append, win_none (l := cellsAt q a _) (fun c hc => by have := (mem_cellsAt hc).2.1; rw [n1] at this; omega),
    win_all (fun c hc => by have := mem_cellsAt hc; rw [n2] at this; omega), win_none (l := cellsAt q t _) (fun c hc => by have := (mem_cellsAt hc).1; omega)]
  simp

/-- What pieces have between two addresses. -/
def cutZ (l : List Pz) (f t : Nat) : List UInt8 × Int :=
  match l.find? (fun p => decide (p.at_ ≤ f) && decide (f < p.end_)) with
  | some p => ((p.bytes.drop (f - p.at_)).take (t - f), p.prot)
  | none => ([], 0)
def endsZ (l : List Pz) : List Nat := l.flatMap (fun p => [p.at_, p.end_])
def NoIn (l : List Pz) (f t : Nat) : Prop := ∀ e ∈ endsZ l, ¬ (f < e ∧ e < t)
theorem NoIn.tail {p : Pz} {l : List Pz} {f t : Nat} (h : NoIn (p :: l) f t) : NoIn l f t := fun e he => h e (by unfold endsZ at he ⊢; rw [List.flatMap_cons]; exact List.mem_append_right _ he)
theorem NoIn.head {p : Pz} {l : List Pz} {f t : Nat} (h : NoIn (p :: l) f t) : ¬ (f < p.at_ ∧ p.at_ < t) ∧ ¬ (f < p.end_ ∧ p.end_ < t) :=
  ⟨h _ (by unfold endsZ; rw [List.flatMap_cons]; simp), h _ (by unfold endsZ; rw [List.flatMap_cons]; simp)⟩
theorem cut_none {l : List Pz} {f t : Nat} (h : ∀ p ∈ l, ¬ (p.at_ ≤ f ∧ f < p.end_)) : cutZ l f t = ([], 0) := by
  unfold cutZ
  rw [List.find?_eq_none.2 (fun p hp => by have := h p hp; simpa using this)]
theorem Srt.at_le {n : Nat} {l : List Pz} (h : Srt n l) : ∀ p ∈ l, n ≤ p.at_ ∧ p.end_ ≤ MAXA ∧ p.bytes ≠ [] ∧ 1 ≤ p.prot := by
  induction h with
  | nil n => intro p hp; cases hp
  | @cons n p l h1 h2 h3 h4 h ih =>
    intro x hx
    rcases List.mem_cons.1 hx with rfl | hx
    · exact ⟨h3, h4, h1, h2⟩
    · obtain ⟨g1, g2, g3⟩ := ih x hx
      unfold Pz.end_ at g1
      exact ⟨by omega, g2, g3⟩
theorem cut_win {n : Nat} {l : List Pz} (h : Srt n l) {f t : Nat} (hft : f < t) (hno : NoIn l f t) :
    win f t (cellsZ l) = cellsAt (cutZ l f t).2 f (cutZ l f t).1 ∧ (((cutZ l f t).2 = 0 ∧ (cutZ l f t).1 = []) ∨ (1 ≤ (cutZ l f t).2 ∧ (cutZ l f t).1.length = t - f)) := by
  induction h with
  | nil n => exact ⟨rfl, .inl ⟨rfl, rfl⟩⟩
  | @cons n p l h1 h2 h3 h4 h ih =>
    have ih := ih hno.tail
    obtain ⟨g1, g2⟩ := hno.head
    have hlen := List.length_pos_iff.2 h1
    have e : cellsZ (p :: l) = p.cells ++ cellsZ l := rfl
    rw [e, win_append]
    by_cases c1 : p.end_ ≤ f
    · have ec : cutZ (p :: l) f t = cutZ l f t := by
        unfold cutZ
        rw [List.find?_cons, show (decide (p.at_ ≤ f) && decide (f < p.end_)) = false by rw [decide_eq_false (by omega : ¬ f < p.end_), Bool.and_false]]
      rw [ec, win_none (l := p.cells) (fun c hc => by have := (mem_cellsAt hc).2.1; unfold Pz.end_ at c1; omega), List.nil_append]
      exact ih
    · by_cases c2 : p.at_ ≤ f
      · have ec : cutZ (p :: l) f t = ((p.bytes.drop (f - p.at_)).take (t - f), p.prot) := by
          unfold cutZ
          rw [List.find?_cons, show (decide (p.at_ ≤ f) && decide (f < p.end_)) = true by rw [decide_eq_true (by omega : f < p.end_), decide_eq_true c2]; rfl]
        have ht : t ≤ p.at_ + p.bytes.length := by unfold Pz.end_ at g2 c1; omega
        rw [ec]
        refine ⟨?_, .inr ⟨h2, ?_⟩⟩
        · rw [show p.cells = cellsAt p.prot p.at_ p.bytes from rfl, win_cellsAt _ _ _ _ _ c2 (by omega) ht, win_none (l := cellsZ l) (fun c hc => by have := (h.lows c hc).1; unfold Pz.end_ at this; omega), List.append_nil]
        · show ((p.bytes.drop (f - p.at_)).take (t - f)).length = t - f
          rw [List.length_take, List.length_drop]; omega
      · have ha : t ≤ p.at_ := by omega
        have ec : cutZ (p :: l) f t = ([], 0) := cut_none (fun x hx => by
          rcases List.mem_cons.1 hx with rfl | hx
          · omega
          · have := (h.at_le x hx).1; unfold Pz.end_ at this; omega)
        rw [ec]
        refine ⟨?_, .inl ⟨rfl, rfl⟩⟩
        rw [win_none (l := p.cells) (fun c hc => by have := (mem_cellsAt hc).1; omega), win_none (l := cellsZ l) (fun c hc => by have := (h.lows c hc).1; unfold Pz.end_ at this; omega)]
        rfl

/-- What stands at each address between. -/
theorem cut_prot {n : Nat} {l : List Pz} (h : Srt n l) {f t : Nat} (hft : f < t) (hno : NoIn l f t) {a : Nat} (h1 : f ≤ a) (h2 : a < t) : protAt (cellsZ l) a = (cutZ l f t).2 ∧ byteAt (cellsZ l) a = (cutZ l f t).1[a - f]? := by
  obtain ⟨hw, hc⟩ := cut_win h hft hno
  rcases hc with ⟨c1, c2⟩ | ⟨c1, c2⟩
  · rw [c1, c2] at hw ⊢
    have hn : ∀ c ∈ cellsZ l, c.at_ ≠ a := fun c hc e => by
      have : c ∈ win f t (cellsZ l) := mem_win.2 ⟨hc, by omega, by omega⟩
      rw [hw] at this; cases this
    exact ⟨protAt_none hn, by rw [byteAt_none hn]; rfl⟩
  · obtain ⟨b, hb⟩ : ∃ b, (cutZ l f t).1[a - f]? = some b := ⟨_, List.getElem?_eq_getElem (by omega)⟩
    have hg := cellsAt_get (cutZ l f t).2 f _ _ _ hb
    rw [← hw] at hg
    have hm := (mem_win.1 (List.mem_of_getElem? hg)).1
    have e : f + (a - f) = a := by omega
    rw [e] at hm
    exact ⟨(protAt_mem h.up hm), by rw [hb]; exact byteAt_mem h.up hm⟩

def pairsZ : List Nat → List (Nat × Nat)
  | x :: y :: l => (x, y) :: pairsZ (y :: l)
  | _ => []
/-- The places, rising, where a or b begin or end. -/
structure Bnds (bs : List Nat) (a b : List Pz) : Prop where
  up : bs.Pairwise (· < ·)
  mem : ∀ e, e ∈ bs ↔ e ∈ endsZ a ∨ e ∈ endsZ b

theorem pairs_props : ∀ {bs : List Nat}, bs.Pairwise (· < ·) → ∀ x ∈ pairsZ bs, x.1 < x.2 ∧ ∀ e ∈ bs, ¬ (x.1 < e ∧ e < x.2)
  | [], _, x, hx => by cases hx
  | [_], _, x, hx => by cases hx
  | f :: t :: l, h, x, hx => by
    rw [pairsZ] at hx
    have hft : f < t := List.rel_of_pairwise_cons h List.mem_cons_self
    have h' := List.Pairwise.of_cons h
    rcases List.mem_cons.1 hx with rfl | hx2
    · refine ⟨hft, fun e he => ?_⟩
      rcases List.mem_cons.1 he with rfl | he
      · simp
      · rcases List.mem_cons.1 he with rfl | he
        · simp
        · have : t < e := List.rel_of_pairwise_cons h' he
          simp; omega
    · obtain ⟨g1, g2⟩ := pairs_props h' x hx2
      refine ⟨g1, fun e he => ?_⟩
      rcases List.mem_cons.1 he with rfl | he
      · have hge : t ≤ x.1 := by
          have hx1 : x.1 ∈ t :: l := by
            clear g1 g2 h h' hft he
            have gen : ∀ (l : List Nat) (x : Nat × Nat), x ∈ pairsZ l → x.1 ∈ l := by
              intro l
              induction l with
              | nil => intro x hx; cases hx
              | cons y l ih =>
                intro x hx
                cases l with
                | nil => cases hx
                | cons z l =>
                  rw [pairsZ] at hx
                  rcases List.mem_cons.1 hx with rfl | hx
                  · exact List.mem_cons_self
                  · exact List.mem_cons_of_mem _ (ih x hx)
            exact gen _ x hx2
          rcases List.mem_cons.1 hx1 with e | hx1
          · omega
          · exact Nat.le_of_lt (List.rel_of_pairwise_cons h' hx1)
        omega
      · exact g2 e he
theorem Bnds.noIn {bs : List Nat} {a b : List Pz} (h : Bnds bs a b) {x : Nat × Nat} (hx : x ∈ pairsZ bs) : x.1 < x.2 ∧ NoIn a x.1 x.2 ∧ NoIn b x.1 x.2 := by
  obtain ⟨h1, h2⟩ := pairs_props h.up x hx
  exact ⟨h1, fun e he => h2 e ((h.mem e).2 (.inl he)), fun e he => h2 e ((h.mem e).2 (.inr he))⟩

/-- Each byte lies in one window. -/
theorem cover : ∀ {bs : List Nat} {c : Nat} {lo hi : Nat}, lo ∈ bs → hi ∈ bs → bs.Pairwise (· < ·) → lo ≤ c → c < hi → ∃ x ∈ pairsZ bs, x.1 ≤ c ∧ c < x.2
  | [], c, lo, hi, h1, _, _, _, _ => by cases h1
  | [f], c, lo, hi, h1, h2, _, h3, h4 => by
    rw [List.mem_singleton] at h1 h2
    omega
  | f :: t :: l, c, lo, hi, h1, h2, h, h3, h4 => by
    by_cases hc : c < t
    · refine ⟨(f, t), by rw [pairsZ]; exact List.mem_cons_self, ?_, hc⟩
      rcases List.mem_cons.1 h1 with rfl | h1
      · exact h3
      · have : t ≤ lo := by
          rcases List.mem_cons.1 h1 with rfl | h1
          · exact Nat.le_refl _
          · exact Nat.le_of_lt (List.rel_of_pairwise_cons (List.Pairwise.of_cons h) h1)
        omega
    · have h2' : hi ∈ t :: l := by
        rcases List.mem_cons.1 h2 with rfl | h2
        · have : hi < t := List.rel_of_pairwise_cons h List.mem_cons_self
          omega
        · exact h2
      obtain ⟨x, hx, g⟩ := cover (lo := t) (hi := hi) (c := c) List.mem_cons_self h2' (List.Pairwise.of_cons h) (by omega) h4
      exact ⟨x, by rw [pairsZ]; exact List.mem_cons_of_mem _ hx, g⟩
theorem mem_cellsZ {l : List Pz} {c : Cz} (h : c ∈ cellsZ l) : ∃ p ∈ l, p.at_ ≤ c.at_ ∧ c.at_ < p.end_ := by
  obtain ⟨p, hp, hc⟩ := List.mem_flatMap.1 h
  have := mem_cellsAt hc
  exact ⟨p, hp, this.1, this.2.1⟩
theorem Bnds.cover {bs : List Nat} {a b : List Pz} (h : Bnds bs a b) {c : Cz} (hc : c ∈ cellsZ a ∨ c ∈ cellsZ b) : ∃ x ∈ pairsZ bs, x.1 ≤ c.at_ ∧ c.at_ < x.2 := by
  have key : ∀ l : List Pz, (∀ e ∈ endsZ l, e ∈ bs) → c ∈ cellsZ l → ∃ x ∈ pairsZ bs, x.1 ≤ c.at_ ∧ c.at_ < x.2 := by
    intro l hl hc
    obtain ⟨p, hp, h1, h2⟩ := mem_cellsZ hc
    exact Go.Proofs.Ythlnjfnjmjdohaa.cover (hl _ (List.mem_flatMap.2 ⟨p, hp, by simp⟩)) (hl _ (List.mem_flatMap.2 ⟨p, hp, by simp⟩)) h.up h1 h2
  rcases hc with hc | hc
  · exact key a (fun e he => (h.mem e).2 (.inl he)) hc
  · exact key b (fun e he => (h.mem e).2 (.inr he)) hc
/-- Windows follow one another. -/
theorem pairs_up : ∀ {bs : List Nat}, bs.Pairwise (· < ·) → (pairsZ bs).Pairwise (fun x y => x.2 ≤ y.1)
  | [], _ => List.Pairwise.nil
  | [_], _ => List.Pairwise.nil
  | f :: t :: l, h => by
    rw [pairsZ]
    refine List.Pairwise.cons (fun y hy => ?_) (pairs_up (List.Pairwise.of_cons h))
    have gen : ∀ (l : List Nat) (x : Nat × Nat), x ∈ pairsZ l → x.1 ∈ l := by
      intro l
      induction l with
      | nil => intro x hx; cases hx
      | cons y l ih =>
        intro x hx
        cases l with
        | nil => cases hx
        | cons z l =>
          rw [pairsZ] at hx
          rcases List.mem_cons.1 hx with rfl | hx
          · exact List.mem_cons_self
          · exact List.mem_cons_of_mem _ (ih x hx)
    rcases List.mem_cons.1 (gen _ y hy) with e | hy1
    · show t ≤ y.1; omega
    · exact Nat.le_of_lt (List.rel_of_pairwise_cons (List.Pairwise.of_cons h) hy1)
end Go.Proofs.Ythlnjfnjmjdohaa

namespace Go.Proofs.Ythlnjfnjmjdohaa
set_option linter.unusedSimpArgs false
set_option linter.unusedVariables false

/-- A byte that is another one. -/
structure Dz where
  at_ : Nat
  old : UInt8
  new : UInt8
deriving DecidableEq
def UpD (l : List Dz) : Prop := l.Pairwise (fun x y => x.at_ < y.at_)
theorem upD_ext : ∀ {l m : List Dz}, UpD l → UpD m → (∀ c, c ∈ l ↔ c ∈ m) → l = m
  | [], [], _, _, _ => rfl
  | [], d :: m, _, _, h => absurd ((h d).2 List.mem_cons_self) (by simp)
  | c :: l, [], _, _, h => absurd ((h c).1 List.mem_cons_self) (by simp)
  | c :: l, d :: m, hl, hm, h => by
    have key : c = d := by
      have h1 := (h c).1 List.mem_cons_self
      have h2 := (h d).2 List.mem_cons_self
      rcases List.mem_cons.1 h1 with e | h1
      · exact e
      · rcases List.mem_cons.1 h2 with e | h2
        · exact e.symm
        · have a1 : d.at_ < c.at_ := List.rel_of_pairwise_cons hm h1
          have a2 : c.at_ < d.at_ := List.rel_of_pairwise_cons hl h2
          omega
    subst key
    rw [upD_ext (List.Pairwise.of_cons hl) (List.Pairwise.of_cons hm) (fun x => ?_)]
    have hx := h x
    constructor
    · intro hxl
      rcases List.mem_cons.1 (hx.1 (List.mem_cons_of_mem _ hxl)) with e | g
      · subst e
        have : x.at_ < x.at_ := List.rel_of_pairwise_cons hl hxl
        omega
      · exact g
    · intro hxm
      rcases List.mem_cons.1 (hx.2 (List.mem_cons_of_mem _ hxm)) with e | g
      · subst e
        have : x.at_ < x.at_ := List.rel_of_pairwise_cons hm hxm
        omega
      · exact g

/-- What two memories have from an address on. -/
structure Pt where
  at_ : Nat
  a : List UInt8
  b : List UInt8
  p : Int
  q : Int
def ptOf (a b : List Pz) (x : Nat × Nat) : Pt := ⟨x.1, (cutZ a x.1 x.2).1, (cutZ b x.1 x.2).1, (cutZ a x.1 x.2).2, (cutZ b x.1 x.2).2⟩
def partsZ (a b : List Pz) (bs : List Nat) : List Pt := ((pairsZ bs).map (ptOf a b)).filter (fun x => decide (0 < x.p + x.q))

/-- What each window holds. -/
structure PtOk (A B : List Cz) (x : Nat × Nat) (r : Pt) : Prop where
  at_ : r.at_ = x.1
  lt : x.1 < x.2
  wa : win x.1 x.2 A = cellsAt r.p r.at_ r.a
  wb : win x.1 x.2 B = cellsAt r.q r.at_ r.b
  ca : (r.p = 0 ∧ r.a = []) ∨ (1 ≤ r.p ∧ r.a.length = x.2 - x.1)
  cb : (r.q = 0 ∧ r.b = []) ∨ (1 ≤ r.q ∧ r.b.length = x.2 - x.1)
  pa : ∀ t, x.1 ≤ t → t < x.2 → protAt A t = r.p ∧ byteAt A t = r.a[t - x.1]?
  pb : ∀ t, x.1 ≤ t → t < x.2 → protAt B t = r.q ∧ byteAt B t = r.b[t - x.1]?
theorem ptOf_ok {a b : List Pz} {bs : List Nat} (ha : Srt 0 a) (hb : Srt 0 b) (h : Bnds bs a b) {x : Nat × Nat} (hx : x ∈ pairsZ bs) : PtOk (cellsZ a) (cellsZ b) x (ptOf a b x) := by
  obtain ⟨h1, h2, h3⟩ := h.noIn hx
  obtain ⟨a1, a2⟩ := cut_win ha h1 h2
  obtain ⟨b1, b2⟩ := cut_win hb h1 h3
  exact ⟨rfl, h1, a1, b1, a2, b2, fun t ht1 ht2 => cut_prot ha h1 h2 ht1 ht2, fun t ht1 ht2 => cut_prot hb h1 h3 ht1 ht2⟩

/-- Bytes that are told window by window. -/
theorem parts_cells {a b : List Pz} {bs : List Nat} (ha : Srt 0 a) (hb : Srt 0 b) (h : Bnds bs a b) (g : Pt → List Cz) (T : Cz → Prop)
    (hg : ∀ x r, PtOk (cellsZ a) (cellsZ b) x r → Up (g r) ∧ ∀ c, c ∈ g r ↔ x.1 ≤ c.at_ ∧ c.at_ < x.2 ∧ T c)
    (hT : ∀ c, T c → ∃ d, (d ∈ cellsZ a ∨ d ∈ cellsZ b) ∧ d.at_ = c.at_) : Up ((partsZ a b bs).flatMap g) ∧ ∀ c, c ∈ (partsZ a b bs).flatMap g ↔ T c := by
  have gz : ∀ x ∈ pairsZ bs, ¬ 0 < (ptOf a b x).p + (ptOf a b x).q → g (ptOf a b x) = [] := by
    intro x hx hn
    have ok := ptOf_ok ha hb h hx
    obtain ⟨-, hm⟩ := hg x _ ok
    refine List.eq_nil_iff_forall_not_mem.2 fun c hc => ?_
    obtain ⟨h1, h2, h3⟩ := (hm c).1 hc
    obtain ⟨d, hd, he⟩ := hT c h3
    rcases hd with hd | hd
    · have : d ∈ win x.1 x.2 (cellsZ a) := mem_win.2 ⟨hd, by omega, by omega⟩
      rw [ok.wa] at this
      rcases ok.ca with ⟨k1, k2⟩ | ⟨k1, k2⟩
      · rw [k2] at this; cases this
      · rcases ok.cb with ⟨m1, m2⟩ | ⟨m1, m2⟩ <;> omega
    · have : d ∈ win x.1 x.2 (cellsZ b) := mem_win.2 ⟨hd, by omega, by omega⟩
      rw [ok.wb] at this
      rcases ok.cb with ⟨k1, k2⟩ | ⟨k1, k2⟩
      · rw [k2] at this; cases this
      · rcases ok.ca with ⟨m1, m2⟩ | ⟨m1, m2⟩ <;> omega
  constructor
  · unfold partsZ
    have gen : ∀ l : List (Nat × Nat), (∀ x ∈ l, x ∈ pairsZ bs) → l.Pairwise (fun x y => x.2 ≤ y.1) → Up ((((l.map (ptOf a b)).filter (fun x => decide (0 < x.p + x.q)))).flatMap g) ∧ ∀ c ∈ ((l.map (ptOf a b)).filter (fun x => decide (0 < x.p + x.q))).flatMap g, ∃ x ∈ l, x.1 ≤ c.at_ ∧ c.at_ < x.2 := by
      intro l
      induction l with
      | nil => intro _ _; exact ⟨List.Pairwise.nil, fun c hc => by cases hc⟩
      | cons x l ih =>
        intro hl hp
        obtain ⟨i1, i2⟩ := ih (fun y hy => hl y (List.mem_cons_of_mem _ hy)) (List.Pairwise.of_cons hp)
        have ok := ptOf_ok ha hb h (hl x List.mem_cons_self)
        obtain ⟨u, hm⟩ := hg x _ ok
        rw [List.map_cons, List.filter_cons]
        split
        · rw [List.flatMap_cons]
          refine ⟨List.pairwise_append.2 ⟨u, i1, fun c hc d hd => ?_⟩, fun c hc => ?_⟩
          · obtain ⟨y, hy, g1, g2⟩ := i2 d hd
            have := List.rel_of_pairwise_cons hp hy
            have := (hm c).1 hc
            omega
          · rcases List.mem_append.1 hc with hc | hc
            · exact ⟨x, List.mem_cons_self, ((hm c).1 hc).1, ((hm c).1 hc).2.1⟩
            · obtain ⟨y, hy, g⟩ := i2 c hc
              exact ⟨y, List.mem_cons_of_mem _ hy, g⟩
        · refine ⟨i1, fun c hc => ?_⟩
          obtain ⟨y, hy, g⟩ := i2 c hc
          exact ⟨y, List.mem_cons_of_mem _ hy, g⟩
    exact (gen _ (fun _ hx => hx) (pairs_up h.up)).1
  · intro c
    constructor
    · intro hc
      obtain ⟨r, hr, hcr⟩ := List.mem_flatMap.1 hc
      obtain ⟨x, hx, rfl⟩ := List.mem_map.1 (List.mem_filter.1 hr).1
      exact (((hg x _ (ptOf_ok ha hb h hx)).2 c).1 hcr).2.2
    · intro hT'
      obtain ⟨d, hd, he⟩ := hT c hT'
      obtain ⟨x, hx, g1, g2⟩ := h.cover hd
      have hcx := ((hg x _ (ptOf_ok ha hb h hx)).2 c).2 ⟨by omega, by omega, hT'⟩
      refine List.mem_flatMap.2 ⟨ptOf a b x, List.mem_filter.2 ⟨List.mem_map.2 ⟨x, hx, rfl⟩, decide_eq_true ?_⟩, hcx⟩
      by_cases hn : 0 < (ptOf a b x).p + (ptOf a b x).q
      · exact hn
      · rw [gz x hx hn] at hcx; cases hcx
/-- The same of what is patched. -/
theorem parts_dz {a b : List Pz} {bs : List Nat} (ha : Srt 0 a) (hb : Srt 0 b) (h : Bnds bs a b) (g : Pt → List Dz) (T : Dz → Prop)
    (hg : ∀ x r, PtOk (cellsZ a) (cellsZ b) x r → UpD (g r) ∧ ∀ c, c ∈ g r ↔ x.1 ≤ c.at_ ∧ c.at_ < x.2 ∧ T c)
    (hT : ∀ c, T c → ∃ d, (d ∈ cellsZ a ∨ d ∈ cellsZ b) ∧ d.at_ = c.at_) : UpD ((partsZ a b bs).flatMap g) ∧ ∀ c, c ∈ (partsZ a b bs).flatMap g ↔ T c := by
  have gz : ∀ x ∈ pairsZ bs, ¬ 0 < (ptOf a b x).p + (ptOf a b x).q → g (ptOf a b x) = [] := by
    intro x hx hn
    have ok := ptOf_ok ha hb h hx
    obtain ⟨-, hm⟩ := hg x _ ok
    refine List.eq_nil_iff_forall_not_mem.2 fun c hc => ?_
    obtain ⟨h1, h2, h3⟩ := (hm c).1 hc
    obtain ⟨d, hd, he⟩ := hT c h3
    rcases hd with hd | hd
    · have : d ∈ win x.1 x.2 (cellsZ a) := mem_win.2 ⟨hd, by omega, by omega⟩
      rw [ok.wa] at this
      rcases ok.ca with ⟨k1, k2⟩ | ⟨k1, k2⟩
      · rw [k2] at this; cases this
      · rcases ok.cb with ⟨m1, m2⟩ | ⟨m1, m2⟩ <;> omega
    · have : d ∈ win x.1 x.2 (cellsZ b) := mem_win.2 ⟨hd, by omega, by omega⟩
      rw [ok.wb] at this
      rcases ok.cb with ⟨k1, k2⟩ | ⟨k1, k2⟩
      · rw [k2] at this; cases this
      · rcases ok.ca with ⟨m1, m2⟩ | ⟨m1, m2⟩ <;> omega
  constructor
  · unfold partsZ
    have gen : ∀ l : List (Nat × Nat), (∀ x ∈ l, x ∈ pairsZ bs) → l.Pairwise (fun x y => x.2 ≤ y.1) → UpD ((((l.map (ptOf a b)).filter (fun x => decide (0 < x.p + x.q)))).flatMap g) ∧ ∀ c ∈ ((l.map (ptOf a b)).filter (fun x => decide (0 < x.p + x.q))).flatMap g, ∃ x ∈ l, x.1 ≤ c.at_ ∧ c.at_ < x.2 := by
      intro l
      induction l with
      | nil => intro _ _; exact ⟨List.Pairwise.nil, fun c hc => by cases hc⟩
      | cons x l ih =>
        intro hl hp
        obtain ⟨i1, i2⟩ := ih (fun y hy => hl y (List.mem_cons_of_mem _ hy)) (List.Pairwise.of_cons hp)
        have ok := ptOf_ok ha hb h (hl x List.mem_cons_self)
        obtain ⟨u, hm⟩ := hg x _ ok
        rw [List.map_cons, List.filter_cons]
        split
        · rw [List.flatMap_cons]
          refine ⟨List.pairwise_append.2 ⟨u, i1, fun c hc d hd => ?_⟩, fun c hc => ?_⟩
          · obtain ⟨y, hy, g1, g2⟩ := i2 d hd
            have := List.rel_of_pairwise_cons hp hy
            have := (hm c).1 hc
            omega
          · rcases List.mem_append.1 hc with hc | hc
            · exact ⟨x, List.mem_cons_self, ((hm c).1 hc).1, ((hm c).1 hc).2.1⟩
            · obtain ⟨y, hy, g⟩ := i2 c hc
              exact ⟨y, List.mem_cons_of_mem _ hy, g⟩
        · refine ⟨i1, fun c hc => ?_⟩
          obtain ⟨y, hy, g⟩ := i2 c hc
          exact ⟨y, List.mem_cons_of_mem _ hy, g⟩
    exact (gen _ (fun _ hx => hx) (pairs_up h.up)).1
  · intro c
    constructor
    · intro hc
      obtain ⟨r, hr, hcr⟩ := List.mem_flatMap.1 hc
      obtain ⟨x, hx, rfl⟩ := List.mem_map.1 (List.mem_filter.1 hr).1
      exact (((hg x _ (ptOf_ok ha hb h hx)).2 c).1 hcr).2.2
    · intro hT'
      obtain ⟨d, hd, he⟩ := hT c hT'
      obtain ⟨x, hx, g1, g2⟩ := h.cover hd
      have hcx := ((hg x _ (ptOf_ok ha hb h hx)).2 c).2 ⟨by omega, by omega, hT'⟩
      refine List.mem_flatMap.2 ⟨ptOf a b x, List.mem_filter.2 ⟨List.mem_map.2 ⟨x, hx, rfl⟩, decide_eq_true ?_⟩, hcx⟩
      by_cases hn : 0 < (ptOf a b x).p + (ptOf a b x).q
      · exact hn
      · rw [gz x hx hn] at hcx; cases hcx

/-- What is lost, gained, patched, by windows. -/
def lostW (r : Pt) : List Cz := if r.p = r.q then [] else if 0 < r.p then cellsAt r.p r.at_ r.a else []
def gainW (r : Pt) : List Cz := if r.p = r.q then [] else if 0 < r.q then cellsAt r.q r.at_ r.b else []
def diffsZ : Nat → List UInt8 → List UInt8 → List Dz
  | a, x :: l, y :: m => if x = y then diffsZ (a + 1) l m else ⟨a, x, y⟩ :: diffsZ (a + 1) l m
  | _, _, _ => []
def patchW (r : Pt) : List Dz := if r.p = r.q then diffsZ r.at_ r.a r.b else []
theorem mem_diffs : ∀ {a : Nat} {l m : List UInt8} {d : Dz}, d ∈ diffsZ a l m ↔ a ≤ d.at_ ∧ l[d.at_ - a]? = some d.old ∧ m[d.at_ - a]? = some d.new ∧ d.old ≠ d.new
  | a, [], m, d => by simp [diffsZ]
  | a, x :: l, [], d => by simp [diffsZ]
  | a, x :: l, y :: m, d => by
    have ih := mem_diffs (a := a + 1) (l := l) (m := m) (d := d)
    have step : ∀ z : List UInt8, ∀ u : UInt8, a + 1 ≤ d.at_ → (u :: z)[d.at_ - a]? = z[d.at_ - (a + 1)]? := fun z u h => by
      rw [show d.at_ - a = (d.at_ - (a + 1)) + 1 by omega, List.getElem?_cons_succ]
    rw [diffsZ]
    split
    · rename_i hxy
      rw [ih]
      constructor
      · rintro ⟨h1, h2, h3, h4⟩
        exact ⟨by omega, by rw [step l x h1]; exact h2, by rw [step m y h1]; exact h3, h4⟩
      · rintro ⟨h1, h2, h3, h4⟩
        by_cases he : d.at_ = a
        · rw [he, Nat.sub_self] at h2 h3
          simp at h2 h3
          exact absurd (h2.symm.trans (hxy.trans h3)) h4
        · exact ⟨by omega, by rw [← step l x (by omega)]; exact h2, by rw [← step m y (by omega)]; exact h3, h4⟩
    · rename_i hxy
      rw [List.mem_cons, ih]
      constructor
      · rintro (rfl | ⟨h1, h2, h3, h4⟩)
        · simp; exact hxy
        · exact ⟨by omega, by rw [step l x h1]; exact h2, by rw [step m y h1]; exact h3, h4⟩
      · rintro ⟨h1, h2, h3, h4⟩
        by_cases he : d.at_ = a
        · rw [he, Nat.sub_self] at h2 h3
          simp at h2 h3
          obtain ⟨da, db, dc⟩ := d
          dsimp only at he h2 h3
          subst he h2 h3
          exact .inl rfl
        · exact .inr ⟨by omega, by rw [← step l x (by omega)]; exact h2, by rw [← step m y (by omega)]; exact h3, h4⟩
theorem upD_diffs : ∀ (a : Nat) (l m : List UInt8), UpD (diffsZ a l m)
  | a, [], m => by rw [diffsZ]; exact List.Pairwise.nil; simp
  | a, x :: l, [] => by rw [diffsZ]; exact List.Pairwise.nil; simp
  | a, x :: l, y :: m => by
    rw [diffsZ]
    split
    · exact upD_diffs (a + 1) l m
    · refine List.Pairwise.cons (fun d hd => ?_) (upD_diffs (a + 1) l m)
      have := (mem_diffs.1 hd).1
      show a < d.at_
      omega

theorem lost_spec {a b : List Pz} {bs : List Nat} (ha : Srt 0 a) (hb : Srt 0 b) (h : Bnds bs a b) : Up ((partsZ a b bs).flatMap lostW) ∧ ∀ c, c ∈ (partsZ a b bs).flatMap lostW ↔ (c ∈ cellsZ a ∧ protAt (cellsZ b) c.at_ ≠ c.prot) := by
  refine parts_cells ha hb h lostW _ (fun x r ok => ?_) (fun c hc => ⟨c, .inl hc.1, rfl⟩)
  have key : ∀ c, c ∈ cellsAt r.p r.at_ r.a ↔ c ∈ cellsZ a ∧ x.1 ≤ c.at_ ∧ c.at_ < x.2 := fun c => by rw [← ok.wa, mem_win]
  unfold lostW
  by_cases e : r.p = r.q
  · rw [if_pos e]
    refine ⟨List.Pairwise.nil, fun c => ⟨fun hc => (by cases hc), fun ⟨h1, h2, h3, h4⟩ => ?_⟩⟩
    have := (mem_cellsAt ((key c).2 ⟨h3, h1, h2⟩)).2.2
    rw [(ok.pb c.at_ h1 h2).1] at h4
    exact absurd (e.symm.trans this.symm) h4
  · rw [if_neg e]
    by_cases hp : 0 < r.p
    · rw [if_pos hp]
      refine ⟨up_cellsAt _ _ _, fun c => ⟨fun hc => ?_, fun ⟨h1, h2, h3, h4⟩ => (key c).2 ⟨h3, h1, h2⟩⟩⟩
      obtain ⟨h1, h2, h3⟩ := (key c).1 hc
      refine ⟨h2, h3, h1, ?_⟩
      rw [(ok.pb c.at_ h2 h3).1, (mem_cellsAt hc).2.2]
      exact fun h => e h.symm
    · rw [if_neg hp]
      refine ⟨List.Pairwise.nil, fun c => ⟨fun hc => (by cases hc), fun ⟨h1, h2, h3, h4⟩ => ?_⟩⟩
      have hm := (key c).2 ⟨h3, h1, h2⟩
      rcases ok.ca with ⟨k1, k2⟩ | ⟨k1, k2⟩
      · rw [k2] at hm; cases hm
      · omega
theorem gain_spec {a b : List Pz} {bs : List Nat} (ha : Srt 0 a) (hb : Srt 0 b) (h : Bnds bs a b) : Up ((partsZ a b bs).flatMap gainW) ∧ ∀ c, c ∈ (partsZ a b bs).flatMap gainW ↔ (c ∈ cellsZ b ∧ protAt (cellsZ a) c.at_ ≠ c.prot) := by
  refine parts_cells ha hb h gainW _ (fun x r ok => ?_) (fun c hc => ⟨c, .inr hc.1, rfl⟩)
  have key : ∀ c, c ∈ cellsAt r.q r.at_ r.b ↔ c ∈ cellsZ b ∧ x.1 ≤ c.at_ ∧ c.at_ < x.2 := fun c => by rw [← ok.wb, mem_win]
  unfold gainW
  by_cases e : r.p = r.q
  · rw [if_pos e]
    refine ⟨List.Pairwise.nil, fun c => ⟨fun hc => (by cases hc), fun ⟨h1, h2, h3, h4⟩ => ?_⟩⟩
    have := (mem_cellsAt ((key c).2 ⟨h3, h1, h2⟩)).2.2
    rw [(ok.pa c.at_ h1 h2).1] at h4
    exact absurd (e.trans this.symm) h4
  · rw [if_neg e]
    by_cases hp : 0 < r.q
    · rw [if_pos hp]
      refine ⟨up_cellsAt _ _ _, fun c => ⟨fun hc => ?_, fun ⟨h1, h2, h3, h4⟩ => (key c).2 ⟨h3, h1, h2⟩⟩⟩
      obtain ⟨h1, h2, h3⟩ := (key c).1 hc
      refine ⟨h2, h3, h1, ?_⟩
      rw [(ok.pa c.at_ h2 h3).1, (mem_cellsAt hc).2.2]
      exact e
    · rw [if_neg hp]
      refine ⟨List.Pairwise.nil, fun c => ⟨fun hc => (by cases hc), fun ⟨h1, h2, h3, h4⟩ => ?_⟩⟩
      have hm := (key c).2 ⟨h3, h1, h2⟩
      rcases ok.cb with ⟨k1, k2⟩ | ⟨k1, k2⟩
      · rw [k2] at hm; cases hm
      · omega
def Patched (A B : List Cz) (d : Dz) : Prop := ∃ c ∈ A, c.at_ = d.at_ ∧ c.b = d.old ∧ protAt B d.at_ = c.prot ∧ byteAt B d.at_ = some d.new ∧ d.old ≠ d.new
theorem patch_spec {a b : List Pz} {bs : List Nat} (ha : Srt 0 a) (hb : Srt 0 b) (h : Bnds bs a b) : UpD ((partsZ a b bs).flatMap patchW) ∧ ∀ d, d ∈ (partsZ a b bs).flatMap patchW ↔ Patched (cellsZ a) (cellsZ b) d := by
  refine parts_dz ha hb h patchW _ (fun x r ok => ?_) (fun d ⟨c, hc, he, _⟩ => ⟨c, .inl hc, he⟩)
  have key : ∀ c, c ∈ cellsAt r.p r.at_ r.a ↔ c ∈ cellsZ a ∧ x.1 ≤ c.at_ ∧ c.at_ < x.2 := fun c => by rw [← ok.wa, mem_win]
  unfold patchW
  by_cases e : r.p = r.q
  · rw [if_pos e]
    refine ⟨upD_diffs _ _ _, fun d => ?_⟩
    rw [mem_diffs, ok.at_]
    constructor
    · rintro ⟨h1, h2, h3, h4⟩
      have hlt : d.at_ < x.2 := by
        have hl := (List.getElem?_eq_some_iff.1 h2).1
        have := ok.lt
        rcases ok.ca with ⟨k1, k2⟩ | ⟨k1, k2⟩
        · rw [k2] at hl; simp at hl
        · omega
      have hc := cellsAt_get r.p r.at_ _ _ _ h2
      rw [ok.at_, show x.1 + (d.at_ - x.1) = d.at_ by omega] at hc
      have hm := List.mem_of_getElem? hc
      rw [← ok.at_] at hm
      obtain ⟨m1, m2, m3⟩ := (key _).1 hm
      refine ⟨h1, hlt, _, m1, rfl, rfl, ?_, ?_, h4⟩
      · rw [(ok.pb d.at_ h1 hlt).1]; exact e.symm
      · rw [(ok.pb d.at_ h1 hlt).2]; exact h3
    · rintro ⟨h1, h2, c, hc, he, hb', hp, hy, hn⟩
      refine ⟨h1, ?_, ?_, hn⟩
      · rw [← (ok.pa d.at_ h1 h2).2, ← he, byteAt_mem ha.up hc, hb']
      · rw [← (ok.pb d.at_ h1 h2).2]; exact hy
  · rw [if_neg e]
    refine ⟨List.Pairwise.nil, fun d => ⟨fun hc => (by cases hc), fun ⟨h1, h2, c, hc, he, hb', hp, hy, hn⟩ => ?_⟩⟩
    rw [(ok.pb d.at_ h1 h2).1] at hp
    have := (ok.pa d.at_ h1 h2).1
    rw [← he, protAt_mem ha.up hc] at this
    exact absurd (this.symm.trans hp.symm) e
end Go.Proofs.Ythlnjfnjmjdohaa

namespace Go.Proofs.Ythlnjfnjmjdohaa
set_option linter.unusedSimpArgs false
set_option linter.unusedVariables false

def mergeR : List Cz → List Cz → List Cz × List Cz × List Dz
  | [], y => ([], y, [])
  | c :: x, [] => (c :: x, [], [])
  | c :: x, d :: y =>
    if c.at_ < d.at_ then let r := mergeR x (d :: y); (c :: r.1, r.2.1, r.2.2)
    else if d.at_ < c.at_ then let r := mergeR (c :: x) y; (r.1, d :: r.2.1, r.2.2)
    else if c.prot ≠ d.prot then let r := mergeR x y; (c :: r.1, d :: r.2.1, r.2.2)
    else if c.b ≠ d.b then let r := mergeR x y; (r.1, r.2.1, ⟨c.at_, c.b, d.b⟩ :: r.2.2)
    else mergeR x y
termination_by x y => x.length + y.length

theorem protAt_cons (d : Cz) (y : List Cz) (a : Nat) : protAt (d :: y) a = if d.at_ = a then d.prot else protAt y a := by
  unfold protAt
  rw [List.find?_cons]
  by_cases h : d.at_ = a
  · rw [if_pos h, show (d.at_ == a) = true by simpa using h]
  · rw [if_neg h, show (d.at_ == a) = false by simpa using h]
theorem byteAt_cons (d : Cz) (y : List Cz) (a : Nat) : byteAt (d :: y) a = if d.at_ = a then some d.b else byteAt y a := by
  unfold byteAt
  rw [List.find?_cons]
  by_cases h : d.at_ = a
  · rw [if_pos h, show (d.at_ == a) = true by simpa using h]; rfl
  · rw [if_neg h, show (d.at_ == a) = false by simpa using h]
theorem Up.tail {c : Cz} {l : List Cz} (h : Up (c :: l)) : Up l := List.Pairwise.of_cons h
theorem Up.head {c : Cz} {l : List Cz} (h : Up (c :: l)) : ∀ d ∈ l, c.at_ < d.at_ := fun d hd => List.rel_of_pairwise_cons h hd
theorem protAt_above {y : List Cz} {a : Nat} (h : ∀ d ∈ y, a < d.at_) : protAt y a = 0 := protAt_none (fun c hc => by have := h c hc; omega)
theorem byteAt_above {y : List Cz} {a : Nat} (h : ∀ d ∈ y, a < d.at_) : byteAt y a = none := byteAt_none (fun c hc => by have := h c hc; omega)

structure MergeIs (x y : List Cz) (r : List Cz × List Cz × List Dz) : Prop where
  l : ∀ c, c ∈ r.1 ↔ c ∈ x ∧ protAt y c.at_ ≠ c.prot
  g : ∀ c, c ∈ r.2.1 ↔ c ∈ y ∧ protAt x c.at_ ≠ c.prot
  d : ∀ d, d ∈ r.2.2 ↔ Patched x y d
  ul : Up r.1
  ug : Up r.2.1
  ud : UpD r.2.2
theorem merge_is : ∀ (x y : List Cz), Up x → Up y → (∀ c ∈ x, 1 ≤ c.prot) → (∀ c ∈ y, 1 ≤ c.prot) → MergeIs x y (mergeR x y)
  | [], y, hx, hy, px, py => by
    rw [mergeR]
    refine ⟨fun c => by simp, fun c => ⟨fun h => ⟨h, ?_⟩, fun h => h.1⟩, fun d => ⟨fun h => by simp at h, fun ⟨c, hc, _⟩ => by cases hc⟩, List.Pairwise.nil, hy, List.Pairwise.nil⟩
    have := py c h
    show (0 : Int) ≠ c.prot
    omega
  | c :: x, [], hx, hy, px, py => by
    rw [mergeR]
    refine ⟨fun e => ⟨fun h => ⟨h, ?_⟩, fun h => h.1⟩, fun c => by simp, fun d => ⟨fun h => by simp at h, fun ⟨c, hc, _, _, _, h, _⟩ => by simp [byteAt] at h⟩, hx, List.Pairwise.nil, List.Pairwise.nil⟩
    have := px e h
    show (0 : Int) ≠ e.prot
    omega
  | c :: x, d :: y, hx, hy, px, py => by
    have pc := px c List.mem_cons_self
    have pd := py d List.mem_cons_self
    have px' : ∀ e ∈ x, 1 ≤ e.prot := fun e he => px e (List.mem_cons_of_mem _ he)
    have py' : ∀ e ∈ y, 1 ≤ e.prot := fun e he => py e (List.mem_cons_of_mem _ he)
    have hcx := hx.head
    have hdy := hy.head
    rw [mergeR]
    by_cases h1 : c.at_ < d.at_
    · rw [if_pos h1]
      have ih := merge_is x (d :: y) hx.tail hy px' py
      have z : protAt (d :: y) c.at_ = 0 := protAt_above (fun e he => by
        rcases List.mem_cons.1 he with rfl | he
        · exact h1
        · have := hdy e he; omega)
      have zb : byteAt (d :: y) c.at_ = none := byteAt_above (fun e he => by
        rcases List.mem_cons.1 he with rfl | he
        · exact h1
        · have := hdy e he; omega)
      refine ⟨fun e => ?_, fun e => ?_, fun e => ?_, ?_, ih.ug, ih.ud⟩
      · rw [List.mem_cons, List.mem_cons, ih.l]
        constructor
        · rintro (rfl | h)
          · exact ⟨.inl rfl, by rw [z]; omega⟩
          · exact ⟨.inr h.1, h.2⟩
        · rintro ⟨rfl | h, g⟩
          · exact .inl rfl
          · exact .inr ⟨h, g⟩
      · show e ∈ (mergeR x (d :: y)).2.1 ↔ _
        rw [ih.g]
        constructor
        · rintro ⟨h, g⟩
          refine ⟨h, ?_⟩
          have : c.at_ < e.at_ := by
            rcases List.mem_cons.1 h with rfl | h
            · exact h1
            · have := hdy e h; omega
          rw [protAt_cons, if_neg (by omega)]
          exact g
        · rintro ⟨h, g⟩
          refine ⟨h, ?_⟩
          have : c.at_ < e.at_ := by
            rcases List.mem_cons.1 h with rfl | h
            · exact h1
            · have := hdy e h; omega
          rw [protAt_cons, if_neg (by omega)] at g
          exact g
      · show e ∈ (mergeR x (d :: y)).2.2 ↔ _
        rw [ih.d]
        constructor
        · rintro ⟨k, hk, g⟩; exact ⟨k, List.mem_cons_of_mem _ hk, g⟩
        · rintro ⟨k, hk, g1, g2, g3, g4, g5⟩
          rcases List.mem_cons.1 hk with rfl | hk
          · rw [← g1, zb] at g4; cases g4
          · exact ⟨k, hk, g1, g2, g3, g4, g5⟩
      · exact List.Pairwise.cons (fun e he => hcx e ((ih.l e).1 he).1) ih.ul
    · rw [if_neg h1]
      by_cases h2 : d.at_ < c.at_
      · rw [if_pos h2]
        have ih := merge_is (c :: x) y hx hy.tail px py'
        have z : protAt (c :: x) d.at_ = 0 := protAt_above (fun e he => by
          rcases List.mem_cons.1 he with rfl | he
          · exact h2
          · have := hcx e he; omega)
        have far : ∀ e ∈ c :: x, d.at_ < e.at_ := fun e he => by
          rcases List.mem_cons.1 he with rfl | he
          · exact h2
          · have := hcx e he; omega
        refine ⟨fun e => ?_, fun e => ?_, fun e => ?_, ih.ul, ?_, ih.ud⟩
        · show e ∈ (mergeR (c :: x) y).1 ↔ _
          rw [ih.l]
          constructor
          · rintro ⟨h, g⟩; exact ⟨h, by rw [protAt_cons, if_neg (by have := far e h; omega)]; exact g⟩
          · rintro ⟨h, g⟩; rw [protAt_cons, if_neg (by have := far e h; omega)] at g; exact ⟨h, g⟩
        · rw [List.mem_cons, List.mem_cons, ih.g]
          constructor
          · rintro (rfl | h)
            · exact ⟨.inl rfl, by rw [z]; omega⟩
            · exact ⟨.inr h.1, h.2⟩
          · rintro ⟨rfl | h, g⟩
            · exact .inl rfl
            · exact .inr ⟨h, g⟩
        · show e ∈ (mergeR (c :: x) y).2.2 ↔ _
          rw [ih.d]
          constructor
          · rintro ⟨k, hk, g1, g2, g3, g4, g5⟩
            have := far k hk
            exact ⟨k, hk, g1, g2, by rw [protAt_cons, if_neg (by omega)]; exact g3, by rw [byteAt_cons, if_neg (by omega)]; exact g4, g5⟩
          · rintro ⟨k, hk, g1, g2, g3, g4, g5⟩
            have := far k hk
            rw [protAt_cons, if_neg (by omega)] at g3
            rw [byteAt_cons, if_neg (by omega)] at g4
            exact ⟨k, hk, g1, g2, g3, g4, g5⟩
        · exact List.Pairwise.cons (fun e he => hdy e ((ih.g e).1 he).1) ih.ug
      · rw [if_neg h2]
        have he : c.at_ = d.at_ := by omega
        have ih := merge_is x y hx.tail hy.tail px' py'
        have q1 : protAt (d :: y) c.at_ = d.prot := by rw [protAt_cons, if_pos he.symm]
        have q2 : protAt (c :: x) d.at_ = c.prot := by rw [protAt_cons, if_pos he]
        have q3 : byteAt (d :: y) c.at_ = some d.b := by rw [byteAt_cons, if_pos he.symm]
        have fx : ∀ e ∈ x, d.at_ < e.at_ := fun e h => by have := hcx e h; omega
        have fy : ∀ e ∈ y, c.at_ < e.at_ := fun e h => by have := hdy e h; omega
        have lx : ∀ e, e ∈ (mergeR x y).1 ↔ e ∈ x ∧ protAt (d :: y) e.at_ ≠ e.prot := fun e => by
          rw [ih.l]
          constructor
          · rintro ⟨h, g⟩; exact ⟨h, by rw [protAt_cons, if_neg (by have := fx e h; omega)]; exact g⟩
          · rintro ⟨h, g⟩; rw [protAt_cons, if_neg (by have := fx e h; omega)] at g; exact ⟨h, g⟩
        have gy : ∀ e, e ∈ (mergeR x y).2.1 ↔ e ∈ y ∧ protAt (c :: x) e.at_ ≠ e.prot := fun e => by
          rw [ih.g]
          constructor
          · rintro ⟨h, g⟩; exact ⟨h, by rw [protAt_cons, if_neg (by have := fy e h; omega)]; exact g⟩
          · rintro ⟨h, g⟩; rw [protAt_cons, if_neg (by have := fy e h; omega)] at g; exact ⟨h, g⟩
        have dz : ∀ e, e ∈ (mergeR x y).2.2 ↔ ∃ k ∈ x, k.at_ = e.at_ ∧ k.b = e.old ∧ protAt (d :: y) e.at_ = k.prot ∧ byteAt (d :: y) e.at_ = some e.new ∧ e.old ≠ e.new := fun e => by
          rw [ih.d]
          constructor
          · rintro ⟨k, hk, g1, g2, g3, g4, g5⟩
            have := fx k hk
            exact ⟨k, hk, g1, g2, by rw [protAt_cons, if_neg (by omega)]; exact g3, by rw [byteAt_cons, if_neg (by omega)]; exact g4, g5⟩
          · rintro ⟨k, hk, g1, g2, g3, g4, g5⟩
            have := fx k hk
            rw [protAt_cons, if_neg (by omega)] at g3
            rw [byteAt_cons, if_neg (by omega)] at g4
            exact ⟨k, hk, g1, g2, g3, g4, g5⟩
        by_cases h3 : c.prot ≠ d.prot
        · rw [if_pos h3]
          refine ⟨fun e => ?_, fun e => ?_, fun e => ?_, ?_, ?_, ih.ud⟩
          · rw [List.mem_cons, List.mem_cons, lx]
            constructor
            · rintro (rfl | h)
              · exact ⟨.inl rfl, by rw [q1]; exact fun h => h3 h.symm⟩
              · exact ⟨.inr h.1, h.2⟩
            · rintro ⟨rfl | h, g⟩
              · exact .inl rfl
              · exact .inr ⟨h, g⟩
          · rw [List.mem_cons, List.mem_cons, gy]
            constructor
            · rintro (rfl | h)
              · exact ⟨.inl rfl, by rw [q2]; exact h3⟩
              · exact ⟨.inr h.1, h.2⟩
            · rintro ⟨rfl | h, g⟩
              · exact .inl rfl
              · exact .inr ⟨h, g⟩
          · show e ∈ (mergeR x y).2.2 ↔ _
            rw [dz]
            constructor
            · rintro ⟨k, hk, g⟩; exact ⟨k, List.mem_cons_of_mem _ hk, g⟩
            · rintro ⟨k, hk, g1, g2, g3, g4, g5⟩
              rcases List.mem_cons.1 hk with rfl | hk
              · rw [← g1, q1] at g3; exact absurd g3.symm h3
              · exact ⟨k, hk, g1, g2, g3, g4, g5⟩
          · exact List.Pairwise.cons (fun e he => hcx e ((lx e).1 he).1) ih.ul
          · exact List.Pairwise.cons (fun e he => hdy e ((gy e).1 he).1) ih.ug
        · rw [if_neg h3]
          have h3 : c.prot = d.prot := Decidable.not_not.1 h3
          have lx' : ∀ e, e ∈ (mergeR x y).1 ↔ e ∈ c :: x ∧ protAt (d :: y) e.at_ ≠ e.prot := fun e => by
            rw [lx]
            constructor
            · rintro ⟨h, g⟩; exact ⟨List.mem_cons_of_mem _ h, g⟩
            · rintro ⟨h, g⟩
              rcases List.mem_cons.1 h with rfl | h
              · rw [q1] at g; exact absurd h3.symm g
              · exact ⟨h, g⟩
          have gy' : ∀ e, e ∈ (mergeR x y).2.1 ↔ e ∈ d :: y ∧ protAt (c :: x) e.at_ ≠ e.prot := fun e => by
            rw [gy]
            constructor
            · rintro ⟨h, g⟩; exact ⟨List.mem_cons_of_mem _ h, g⟩
            · rintro ⟨h, g⟩
              rcases List.mem_cons.1 h with rfl | h
              · rw [q2] at g; exact absurd h3 g
              · exact ⟨h, g⟩
          by_cases h4 : c.b ≠ d.b
          · rw [if_pos h4]
            refine ⟨lx', gy', fun e => ?_, ih.ul, ih.ug, ?_⟩
            · rw [List.mem_cons, dz]
              constructor
              · rintro (rfl | ⟨k, hk, g⟩)
                · exact ⟨c, List.mem_cons_self, rfl, rfl, by rw [q1]; exact h3.symm, q3, h4⟩
                · exact ⟨k, List.mem_cons_of_mem _ hk, g⟩
              · rintro ⟨k, hk, g1, g2, g3, g4, g5⟩
                rcases List.mem_cons.1 hk with rfl | hk
                · rw [← g1, q3] at g4
                  obtain ⟨ea, eo, en⟩ := e
                  dsimp only at g1 g2 g4
                  subst g1 g2
                  exact .inl (by rw [Option.some.inj g4])
                · exact .inr ⟨k, hk, g1, g2, g3, g4, g5⟩
            · refine List.Pairwise.cons (fun e he => ?_) ih.ud
              obtain ⟨k, hk, g1, _⟩ := (dz e).1 he
              have := hcx k hk
              show c.at_ < e.at_
              omega
          · rw [if_neg h4]
            refine ⟨lx', gy', fun e => ?_, ih.ul, ih.ug, ih.ud⟩
            rw [dz]
            constructor
            · rintro ⟨k, hk, g⟩; exact ⟨k, List.mem_cons_of_mem _ hk, g⟩
            · rintro ⟨k, hk, g1, g2, g3, g4, g5⟩
              rcases List.mem_cons.1 hk with rfl | hk
              · rw [← g1, q3] at g4
                exact absurd (g2.symm.trans ((Decidable.not_not.1 h4).trans (Option.some.inj g4))) g5
              · exact ⟨k, hk, g1, g2, g3, g4, g5⟩
termination_by x y => x.length + y.length

/-- The windows tell the same. -/
theorem windows_merge {a b : List Pz} {bs : List Nat} (ha : Srt 0 a) (hb : Srt 0 b) (h : Bnds bs a b) :
    (partsZ a b bs).flatMap lostW = (mergeR (cellsZ a) (cellsZ b)).1 ∧ (partsZ a b bs).flatMap gainW = (mergeR (cellsZ a) (cellsZ b)).2.1 ∧ (partsZ a b bs).flatMap patchW = (mergeR (cellsZ a) (cellsZ b)).2.2 := by
  have m := merge_is (cellsZ a) (cellsZ b) ha.up hb.up (fun c hc => (ha.lows c hc).2.2) (fun c hc => (hb.lows c hc).2.2)
  obtain ⟨l1, l2⟩ := lost_spec ha hb h
  obtain ⟨g1, g2⟩ := gain_spec ha hb h
  obtain ⟨d1, d2⟩ := patch_spec ha hb h
  exact ⟨up_ext l1 m.ul (fun c => (l2 c).trans (m.l c).symm), up_ext g1 m.ug (fun c => (g2 c).trans (m.g c).symm), upD_ext d1 m.ud (fun c => (d2 c).trans (m.d c).symm)⟩

/-- Patches: bytes one behind the other. -/
structure Gz where
  at_ : Nat
  old : List UInt8
  new : List UInt8
def pushD (out : List Gz) (d : Dz) : List Gz :=
  match out.getLast? with
  | none => [⟨d.at_, [d.old], [d.new]⟩]
  | some g => if g.at_ + g.old.length = d.at_ then out.dropLast ++ [⟨g.at_, g.old ++ [d.old], g.new ++ [d.new]⟩] else out ++ [⟨d.at_, [d.old], [d.new]⟩]
theorem pushD_snoc (l : List Gz) (g : Gz) (d : Dz) : pushD (l ++ [g]) d = if g.at_ + g.old.length = d.at_ then l ++ [⟨g.at_, g.old ++ [d.old], g.new ++ [d.new]⟩] else l ++ [g] ++ [⟨d.at_, [d.old], [d.new]⟩] := by
  unfold pushD
  simp

/-- What a memory's rows are. -/
structure Rz where
  lost : List Pz
  gained : List Pz
  patches : List Gz
def memZ (a b : List Pz) : Rz :=
  let r := mergeR (cellsZ a) (cellsZ b)
  ⟨piecesZ r.1, piecesZ r.2.1, r.2.2.foldl pushD []⟩

/-- The program's loop, window by window. -/
def stepZ (x : Rz) (r : Pt) : Rz :=
  if r.p = r.q then { x with patches := (diffsZ r.at_ r.a r.b).foldl pushD x.patches }
  else ⟨if 0 < r.p then putP x.lost r.at_ r.p r.a else x.lost, if 0 < r.q then putP x.gained r.at_ r.q r.b else x.gained, x.patches⟩
theorem foldl_step : ∀ (l : List Pt) (x : Rz), (∀ r ∈ l, (0 < r.p → r.a ≠ []) ∧ (0 < r.q → r.b ≠ [])) →
    l.foldl stepZ x = ⟨(l.flatMap lostW).foldl pushC x.lost, (l.flatMap gainW).foldl pushC x.gained, (l.flatMap patchW).foldl pushD x.patches⟩
  | [], x, _ => rfl
  | r :: l, x, h => by
    obtain ⟨h1, h2⟩ := h r List.mem_cons_self
    rw [List.foldl_cons, foldl_step l _ (fun y hy => h y (List.mem_cons_of_mem _ hy)), List.flatMap_cons, List.flatMap_cons, List.flatMap_cons, List.foldl_append, List.foldl_append, List.foldl_append]
    unfold stepZ lostW gainW patchW
    by_cases e : r.p = r.q
    · rw [if_pos e, if_pos e, if_pos e, if_pos e]
      rfl
    · rw [if_neg e, if_neg e, if_neg e, if_neg e]
      congr 2
      · by_cases hp : 0 < r.p
        · rw [if_pos hp, if_pos hp, putP_cells _ _ _ _ (h1 hp)]
        · rw [if_neg hp, if_neg hp]; rfl
      · by_cases hp : 0 < r.q
        · rw [if_pos hp, if_pos hp, putP_cells _ _ _ _ (h2 hp)]
        · rw [if_neg hp, if_neg hp]; rfl
theorem parts_full {a b : List Pz} {bs : List Nat} (ha : Srt 0 a) (hb : Srt 0 b) (h : Bnds bs a b) : ∀ r ∈ partsZ a b bs, (0 < r.p → r.a ≠ []) ∧ (0 < r.q → r.b ≠ []) ∧ 0 < r.p + r.q ∧ 0 ≤ r.p ∧ 0 ≤ r.q ∧ (0 < r.p → 0 < r.q → r.a.length = r.b.length) := by
  intro r hr
  obtain ⟨hr1, hr2⟩ := List.mem_filter.1 hr
  obtain ⟨x, hx, rfl⟩ := List.mem_map.1 hr1
  have ok := ptOf_ok ha hb h hx
  have := ok.lt
  have hpos := of_decide_eq_true hr2
  rcases ok.ca with ⟨k1, k2⟩ | ⟨k1, k2⟩ <;> rcases ok.cb with ⟨m1, m2⟩ | ⟨m1, m2⟩
  · omega
  · exact ⟨fun h => by omega, fun _ e => by rw [e] at m2; simp at m2; omega, hpos, by omega, by omega, fun h => by omega⟩
  · exact ⟨fun _ e => by rw [e] at k2; simp at k2; omega, fun h => by omega, hpos, by omega, by omega, fun _ h => by omega⟩
  · exact ⟨fun _ e => by rw [e] at k2; simp at k2; omega, fun _ e => by rw [e] at m2; simp at m2; omega, hpos, by omega, by omega, fun _ _ => by omega⟩
theorem memory_is {a b : List Pz} {bs : List Nat} (ha : Srt 0 a) (hb : Srt 0 b) (h : Bnds bs a b) : (partsZ a b bs).foldl stepZ ⟨[], [], []⟩ = memZ a b := by
  rw [foldl_step _ _ (fun r hr => ⟨(parts_full ha hb h r hr).1, (parts_full ha hb h r hr).2.1⟩)]
  obtain ⟨e1, e2, e3⟩ := windows_merge ha hb h
  rw [e1, e2, e3]
  rfl
end Go.Proofs.Ythlnjfnjmjdohaa
