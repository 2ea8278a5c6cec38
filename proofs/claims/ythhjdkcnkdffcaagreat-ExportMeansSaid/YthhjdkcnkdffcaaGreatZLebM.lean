/- Numbers of groups of seven bits, texts, as plain laws: how the program's cursor and the reference's read them. No program in sight. -/
import Derived.Test.YthhjdkcnkdffcaaGreatZPlain
namespace Go.Proofs.YthhjdkcnkdffcaaGreat
set_option linter.unusedSimpArgs false
set_option linter.unusedVariables false
/-- A cursor's place; has it failed? -/
structure Cu where
  at_ : Nat
  bad : Bool
/-- A group's bits. -/
def grp (x : UInt8) : Nat := x.toNat % 128
theorem grp_lt (x : UInt8) : grp x < 128 := Nat.mod_lt _ (by omega)
/-- The number ahead, and how many bytes it has, group by group. -/
def ulebF : Nat → List UInt8 → Nat → Nat → Option (Nat × Nat)
  | 0, _, _, _ => none
  | _ + 1, [], _, _ => none
  | f + 1, x :: r, i, n =>
    if i = 9 ∧ 1 < grp x then none
    else if x.toNat < 128 then some (n + grp x * 128 ^ i, i + 1)
    else ulebF f r (i + 1) (n + grp x * 128 ^ i)
def ulebM (b : List UInt8) : Option (Nat × Nat) := ulebF 10 b 0 0
/-- As the reference has it: where the number ends. -/
def sizeF : Nat → List UInt8 → Nat → Nat
  | 0, _, _ => 0
  | _ + 1, [], _ => 0
  | f + 1, x :: r, i => if x.toNat < 128 then i + 1 else sizeF f r (i + 1)
def sizeM (b : List UInt8) : Nat := sizeF 10 b 0
/-- The groups' number, the last group first. -/
def valM : List UInt8 → Nat
  | [] => 0
  | x :: r => grp x + 128 * valM r
theorem sizeF_le : ∀ (f : Nat) (b : List UInt8) (i : Nat), sizeF f b i = 0 ∨ (i < sizeF f b i ∧ sizeF f b i ≤ i + f ∧ sizeF f b i ≤ i + b.length)
  | 0, _, _ => .inl rfl
  | _ + 1, [], _ => .inl rfl
  | f + 1, x :: r, i => by
    rw [sizeF]
    split
    · right; simp only [List.length_cons]; omega
    · rcases sizeF_le f r (i + 1) with h | ⟨h1, h2, h3⟩
      · exact .inl h
      · right; simp only [List.length_cons]; omega
theorem sizeM_le (b : List UInt8) : sizeM b ≤ 10 ∧ sizeM b ≤ b.length := by
  unfold sizeM
  rcases sizeF_le 10 b 0 with h | ⟨h1, h2, h3⟩ <;> omega
/-- What the groups' number is, by where it ends. -/
theorem ulebF_size : ∀ (f : Nat) (b : List UInt8) (i n : Nat), f + i = 10 → n < 128 ^ i →
    ulebF f b i n = if sizeF f b i = 0 then none else if n + 128 ^ i * valM (b.take (sizeF f b i - i)) < 2 ^ 64 then some (n + 128 ^ i * valM (b.take (sizeF f b i - i)), sizeF f b i) else none
  | 0, _, _, _, _, _ => rfl
  | _ + 1, [], _, _, _, _ => rfl
  | f + 1, x :: r, i, n, hf, hn => by
    have hg := grp_lt x
    have hp : 128 ^ (i + 1) = 128 ^ i * 128 := by rw [Nat.pow_succ]
    rw [ulebF, sizeF]
    by_cases hx : x.toNat < 128
    · have e1 : i + 1 - i = 1 := by omega
      have e0 : ¬ i + 1 = 0 := by omega
      have e2 : valM ((x :: r).take 1) = grp x := by simp [valM]
      simp only [hx, if_true, e0, if_false, e1, e2]
      rw [Nat.mul_comm (128 ^ i)]
      by_cases h9 : i = 9
      · subst h9
        have h128 : (128 : Nat) ^ 9 = 9223372036854775808 := by decide
        rw [h128] at hn ⊢
        by_cases hgx : 1 < grp x
        · rw [if_pos ⟨rfl, hgx⟩, if_neg (by omega)]
        · rw [if_neg (by omega), if_pos (by omega)]
      · have hi : 128 ^ i * 128 ≤ 128 ^ 9 := by rw [← Nat.pow_succ]; exact Nat.pow_le_pow_right (by omega) (by omega)
        have h128 : (128 : Nat) ^ 9 = 9223372036854775808 := by decide
        have hm : grp x * 128 ^ i ≤ 127 * 128 ^ i := Nat.mul_le_mul_right _ (by omega)
        rw [if_neg (by omega), if_pos (by omega)]
    · simp only [hx, if_false]
      have hn' : n + grp x * 128 ^ i < 128 ^ (i + 1) := by
        have hm : grp x * 128 ^ i ≤ 127 * 128 ^ i := Nat.mul_le_mul_right _ (by omega)
        omega
      by_cases h9 : i = 9
      · subst h9
        obtain rfl : f = 0 := by omega
        simp [ulebF, sizeF]
      · rw [if_neg (by omega), ulebF_size f r (i + 1) _ (by omega) hn']
        rcases sizeF_le f r (i + 1) with h0 | ⟨h1, h2, h3⟩
        · rw [h0]; simp
        · obtain ⟨k, hk⟩ : ∃ k, sizeF f r (i + 1) = i + 1 + k + 1 := ⟨sizeF f r (i + 1) - i - 2, by omega⟩
          rw [hk]
          have e1 : i + 1 + k + 1 - (i + 1) = k + 1 := by omega
          have e2 : i + 1 + k + 1 - i = k + 2 := by omega
          rw [e1, e2]
          have e3 : valM ((x :: r).take (k + 2)) = grp x + 128 * valM (r.take (k + 1)) := rfl
          rw [e3, hp]
          have e4 : n + grp x * 128 ^ i + 128 ^ i * 128 * valM (r.take (k + 1)) = n + 128 ^ i * (grp x + 128 * valM (r.take (k + 1))) := by
            rw [Nat.mul_add, Nat.mul_comm (grp x), ← Nat.mul_assoc, ← Nat.add_assoc]
          rw [e4]
theorem ulebM_size (b : List UInt8) : ulebM b = if sizeM b = 0 then none else if valM (b.take (sizeM b)) < 2 ^ 64 then some (valM (b.take (sizeM b)), sizeM b) else none := by
  have h := ulebF_size 10 b 0 0 rfl (by simp)
  simp only [Nat.pow_zero, Nat.one_mul, Nat.zero_add, Nat.sub_zero] at h
  exact h
theorem ulebM_lt {b : List UInt8} {n k : Nat} (h : ulebM b = some (n, k)) : n < 2 ^ 64 ∧ 1 ≤ k ∧ k ≤ 10 ∧ k ≤ b.length := by
  rw [ulebM_size] at h
  have hs := sizeM_le b
  split at h
  · cases h
  · split at h
    · rename_i h0 h1
      cases h
      exact ⟨h1, by omega, hs.1, hs.2⟩
    · cases h
/-- A number at a cursor's place: 0 where none stands there, and then it has failed. -/
def numC (l : List UInt8) (s : Cu) : Nat × Cu :=
  if s.bad then (0, s)
  else match ulebM (l.drop s.at_) with
    | some (n, k) => (n, ⟨s.at_ + k, false⟩)
    | none => (0, ⟨s.at_, true⟩)
/-- A text at a cursor's place, of at most so many bytes. -/
def textC (l : List UInt8) (most : Nat) (s : Cu) : List UInt8 × Cu :=
  if s.bad then ([], s)
  else if nul (l.drop s.at_) < (l.drop s.at_).length ∧ nul (l.drop s.at_) ≤ most then ((l.drop s.at_).take (nul (l.drop s.at_)), ⟨s.at_ + nul (l.drop s.at_) + 1, false⟩)
  else ([], ⟨s.at_, true⟩)
end Go.Proofs.YthhjdkcnkdffcaaGreat

namespace Go.Proofs.YthhjdkcnkdffcaaGreat
set_option linter.unusedSimpArgs false
set_option linter.unusedVariables false
/-- An export. -/
structure Exp where
  name : List UInt8
  kind : Int
  weak : Bool
  value : Nat
  resolver : Nat
  ordinal : Nat
  other : List UInt8
def Exp.zero : Exp := ⟨[], 0, false, 0, 0, 0, []⟩
def Exp.cells (x : Exp) : List Value := [.string (mkS x.name), .int .i64 x.kind, .bool x.weak, .int .u64 x.value, .int .u64 x.resolver, .int .u64 x.ordinal, .string (mkS x.other)]
/-- A text ahead, of at most 255 bytes, and how many bytes it takes. -/
def textR (b : List UInt8) : Option (List UInt8 × Nat) :=
  if nul b < b.length ∧ nul b ≤ 255 then some (b.take (nul b), nul b + 1) else none
/-- Flags, but for that of weak ones. -/
def bareF (flags : Nat) : Nat := if flags / 4 % 2 = 1 then flags - 4 else flags
/-- What is said behind the flags, and how many bytes all are. -/
def saysF (fl : Nat) (wk : Bool) (k : Nat) (b : List UInt8) : Option (Exp × Nat) :=
  if fl = 8 then
    match ulebM (b.drop k) with
    | none => none
    | some (o, k2) =>
      match textR (b.drop (k + k2)) with
      | none => none
      | some (t, k3) => some (⟨[], 3, wk, 0, 0, o, t⟩, k + k2 + k3)
  else if fl = 0 then
    match ulebM (b.drop k) with
    | none => none
    | some (v, k2) => some (⟨[], 1, wk, v, 0, 0, []⟩, k + k2)
  else if fl = 2 then
    match ulebM (b.drop k) with
    | none => none
    | some (v, k2) => some (⟨[], 2, wk, v, 0, 0, []⟩, k + k2)
  else if fl = 16 then
    match ulebM (b.drop k) with
    | none => none
    | some (v, k2) =>
      match ulebM (b.drop (k + k2)) with
      | none => none
      | some (r, k3) => some (⟨[], 4, wk, v, r, 0, []⟩, k + k2 + k3)
  else none
/-- What is said of a name by the bytes ahead, and how many they are. -/
def saysR (b : List UInt8) : Option (Exp × Nat) :=
  match ulebM b with
  | none => none
  | some p => saysF (bareF p.1) (p.1 / 4 % 2 == 1) p.2 b
/-- A child: its edge, its place (below 0: it is not there). -/
structure KidM where
  edge : List UInt8
  to : Int
/-- A node. -/
structure NodeM where
  ends : Bool
  says : Exp
  kids : List KidM
def placeM (n all : Nat) : Int := if all ≤ n then -1 else n
/-- So many children ahead, behind those that were read. -/
def kidsR (all : Nat) : Nat → List UInt8 → List KidM → Option (List KidM)
  | 0, _, acc => some acc
  | n + 1, b, acc =>
    match textR b with
    | none => none
    | some (e, k) =>
      match ulebM (b.drop k) with
      | none => none
      | some (to, k2) =>
        if e = [] then none
        else if acc.any (fun x => x.edge.head? == e.head?) then none
        else kidsR all n (b.drop (k + k2)) (acc ++ [⟨e, placeM to all⟩])
/-- The node at a place. -/
def readM (l : List UInt8) (at_ : Nat) : Option NodeM :=
  match ulebM (l.drop at_) with
  | none => none
  | some (size, k) =>
    if l.length - (at_ + k) < size then none
    else
      match (if size = 0 then some Exp.zero else match saysR (l.drop (at_ + k)) with
        | none => none
        | some (x, k2) => if k2 = size then some x else none) with
      | none => none
      | some x =>
        match l[at_ + k + size]? with
        | none => none
        | some m =>
          match kidsR l.length m.toNat (l.drop (at_ + k + size + 1)) [] with
          | none => none
          | some ks => some ⟨decide (0 < size), x, ks⟩
theorem kidsR_ne {all : Nat} : ∀ (n : Nat) (b : List UInt8) (acc ks : List KidM), kidsR all n b acc = some ks → (∀ x ∈ acc, x.edge ≠ [] ∧ x.edge.length ≤ 255) → ∀ x ∈ ks, x.edge ≠ [] ∧ x.edge.length ≤ 255
  | 0, b, acc, ks, h, ha => by cases h; exact ha
  | n + 1, b, acc, ks, h, ha => by
    rw [kidsR] at h
    cases ht : textR b with
    | none => rw [ht] at h; cases h
    | some p =>
      obtain ⟨e, k⟩ := p
      rw [ht] at h
      dsimp only at h
      cases hu : ulebM (b.drop k) with
      | none => rw [hu] at h; cases h
      | some q =>
        obtain ⟨to, k2⟩ := q
        rw [hu] at h
        dsimp only at h
        by_cases he : e = []
        · rw [if_pos he] at h; cases h
        · rw [if_neg he] at h
          split at h
          · cases h
          · refine kidsR_ne n _ _ _ h (fun x hx => ?_)
            rcases List.mem_append.1 hx with h1 | h1
            · exact ha x h1
            · simp at h1; subst h1
              refine ⟨he, ?_⟩
              unfold textR at ht
              split at ht
              · rename_i hc
                cases ht
                rw [List.length_take]; omega
              · cases ht
/-- No two children begin alike. -/
def HeadsApart (ks : List KidM) : Prop := ks.Pairwise (fun a b => a.edge.head? ≠ b.edge.head?)
theorem kidsR_apart {all : Nat} : ∀ (n : Nat) (b : List UInt8) (acc ks : List KidM), kidsR all n b acc = some ks → HeadsApart acc → HeadsApart ks
  | 0, b, acc, ks, h, ha => by cases h; exact ha
  | n + 1, b, acc, ks, h, ha => by
    rw [kidsR] at h
    cases ht : textR b with
    | none => rw [ht] at h; cases h
    | some p =>
      obtain ⟨e, k⟩ := p
      rw [ht] at h
      dsimp only at h
      cases hu : ulebM (b.drop k) with
      | none => rw [hu] at h; cases h
      | some q =>
        obtain ⟨to, k2⟩ := q
        rw [hu] at h
        dsimp only at h
        split at h
        · cases h
        · split at h
          · cases h
          · rename_i hany
            refine kidsR_apart n _ _ _ h (List.pairwise_append.2 ⟨ha, by simp, fun a ha' b' hb' => ?_⟩)
            simp at hb'; subst hb'
            intro heq
            exact hany (List.any_eq_true.2 ⟨a, ha', by simp [heq]⟩)
theorem readM_kids {l : List UInt8} {at_ : Nat} {n : NodeM} (h : readM l at_ = some n) : (∀ x ∈ n.kids, x.edge ≠ [] ∧ x.edge.length ≤ 255) ∧ HeadsApart n.kids := by
  unfold readM at h
  cases hu : ulebM (l.drop at_) with
  | none => rw [hu] at h; cases h
  | some p =>
    obtain ⟨size, k⟩ := p
    rw [hu] at h
    dsimp only at h
    split at h
    · cases h
    · split at h
      · cases h
      · split at h
        · cases h
        · split at h
          · cases h
          · rename_i hk
            cases h
            exact ⟨kidsR_ne _ _ _ _ hk (by simp), kidsR_apart _ _ _ _ hk List.Pairwise.nil⟩
/-! ### what is said of a name -/
/-- From a place on: the export, is it said, an error. -/
def findF (l : List UInt8) (name : List UInt8) : Nat → Int → List UInt8 → List Int → Exp × Bool × Nat
  | 0, _, _, _ => (Exp.zero, false, 0)
  | f + 1, at_, rest, walk =>
    if at_ < 0 ∨ walk.contains at_ = true then (Exp.zero, false, 12)
    else
      match readM l at_.toNat with
      | none => (Exp.zero, false, 12)
      | some n =>
        if rest = [] then (if n.ends then ({ n.says with name := name }, true, 0) else (Exp.zero, false, 0))
        else
          match n.kids.find? (fun k => k.edge.isPrefixOf rest) with
          | none => (Exp.zero, false, 0)
          | some k => findF l name f k.to (rest.drop k.edge.length) (walk ++ [at_])
def findT (l name : List UInt8) : Exp × Bool × Nat :=
  if 255 < name.length then (Exp.zero, false, 10)
  else if l = [] then (Exp.zero, false, 0)
  else findF l name (name.length + 1) 0 name []
/-! ### all that are told -/
structure DownSt where
  met : Nat
  out : List Exp
/-- One child behind the other, till an error. -/
def eachKid (go : KidM → DownSt → Nat × DownSt) : List KidM → DownSt → Nat × DownSt
  | [], st => (0, st)
  | k :: r, st => if (go k st).1 ≠ 0 then go k st else eachKid go r (go k st).2
/-- From a place on, whose name is that, behind a walk: an error, and what was told. -/
def downF (l : List UInt8) : Nat → Int → List UInt8 → List Int → DownSt → Nat × DownSt
  | 0, _, _, _, st => (10, { st with met := st.met + 1 })
  | f + 1, at_, name, walk, st =>
    if 255 < name.length then (10, { st with met := st.met + 1 })
    else if walk.contains at_ = true then (12, { st with met := st.met + 1 })
    else if 8192 < st.met + 1 then (11, { st with met := st.met + 1 })
    else if at_ < 0 then (12, { st with met := st.met + 1 })
    else
      match readM l at_.toNat with
      | none => (12, { st with met := st.met + 1 })
      | some n =>
        if 4096 < (if n.ends then st.out ++ [{ n.says with name := name }] else st.out).length then (11, ⟨st.met + 1, if n.ends then st.out ++ [{ n.says with name := name }] else st.out⟩)
        else eachKid (fun k s => downF l f k.to (name ++ k.edge) (walk ++ [at_]) s) n.kids ⟨st.met + 1, if n.ends then st.out ++ [{ n.says with name := name }] else st.out⟩
def allT (l : List UInt8) : Nat × List Exp :=
  if l = [] then (0, [])
  else if (downF l 257 0 [] [] ⟨0, []⟩).1 ≠ 0 then ((downF l 257 0 [] [] ⟨0, []⟩).1, []) else (0, (downF l 257 0 [] [] ⟨0, []⟩).2.out)
end Go.Proofs.YthhjdkcnkdffcaaGreat

namespace Go.Proofs.YthhjdkcnkdffcaaGreat
set_option linter.unusedSimpArgs false
set_option linter.unusedVariables false

/-- The export of a symbol: the image begins at 4096. -/
def exS (s : Sym) : Exp :=
  if 0 < s.sect then ⟨s.name, 1, s.weak, (s.val + 18446744073709547520) % 18446744073709551616, 0, 0, []⟩ else ⟨s.name, 2, s.weak, s.val, 0, 0, []⟩
theorem exS_name (s : Sym) : (exS s).name = s.name := by unfold exS; split <;> rfl

/-- May an export be? -/
def mayX (x : Exp) : Nat :=
  if x.kind = 4 then (if 4096 ≤ x.value ∨ 4096 ≤ x.resolver then 4 else 0)
  else if x.kind = 1 then (if 4096 ≤ x.value then 4 else 0)
  else if x.kind = 3 then (if x.ordinal ≠ 1 then 22 else 0) else 0
/-- The first error. -/
def goM : List Exp → Nat
  | [] => 0
  | x :: r => if mayX x ≠ 0 then mayX x else goM r
/-- Where an export is. -/
def atX (x : Exp) (slide : Nat) : Nat := if x.kind = 1 ∨ x.kind = 4 then (4096 + slide + x.value) % 18446744073709551616 else if x.kind = 2 then x.value else 0

/-- What is handed back of what a source tells. -/
def endA (r : List Exp × Nat) : List Exp × Nat := if r.2 ≠ 0 then ([], r.2) else if goM r.1 ≠ 0 then ([], goM r.1) else (r.1, 0)
theorem goM_take {L : List Exp} {k : Nat} {x : Exp} (h : ∀ y ∈ L.take k, mayX y = 0) (hx : L[k]? = some x) (hm : mayX x ≠ 0) : goM L = mayX x := by
  induction L generalizing k with
  | nil => simp at hx
  | cons y r ih =>
    cases k with
    | zero =>
      simp only [List.getElem?_cons_zero, Option.some.injEq] at hx
      subst hx
      unfold goM
      rw [if_pos hm]
    | succ k =>
      have hy := h y (by simp)
      unfold goM
      rw [if_neg (by simpa using hy)]
      exact ih (k := k) (fun z hz => h z (by simp [hz])) (by simpa using hx)
/-- What is handed back of what a source finds. -/
def endF (r : Exp × Bool × Nat) : Exp × Bool × Nat :=
  if r.2.2 ≠ 0 then (Exp.zero, false, r.2.2) else if r.2.1 = false then (Exp.zero, false, 0) else if mayX r.1 ≠ 0 then (Exp.zero, false, mayX r.1) else (r.1, true, 0)

theorem goM_zero : ∀ (L : List Exp), goM L = 0 ↔ ∀ x ∈ L, mayX x = 0
  | [] => by simp [goM]
  | x :: r => by
    unfold goM
    by_cases h : mayX x = 0
    · rw [if_neg (by simpa using h), goM_zero r]
      simp [h]
    · rw [if_pos h]
      simp [h]

theorem mayX_in (x : Exp) : mayX x = 0 ∨ mayX x = 4 ∨ mayX x = 22 := by
  unfold mayX
  repeat' split
  all_goals simp

end Go.Proofs.YthhjdkcnkdffcaaGreat

namespace Go.Proofs.YthhjdkcnkdffcaaGreat
set_option linter.unusedSimpArgs false
set_option linter.unusedVariables false
/-- What was told more: names that begin so, no two alike. -/
structure More (pre : List UInt8 → Prop) (a b : List Exp) : Prop where
  ex : ∃ L, b = a ++ L ∧ (∀ x ∈ L, pre x.name) ∧ L.Pairwise (fun x y => x.name ≠ y.name)
theorem More.refl (pre : List UInt8 → Prop) (a : List Exp) : More pre a a := ⟨[], by simp, by simp, List.Pairwise.nil⟩
theorem heads_apart {p e e' n : List UInt8} (h1 : p ++ e <+: n) (h2 : p ++ e' <+: n) (he : e ≠ []) (he' : e' ≠ []) : e.head? = e'.head? := by
  obtain ⟨r, hr⟩ := h1
  obtain ⟨r', hr'⟩ := h2
  have h : e ++ r = e' ++ r' := by
    have : p ++ (e ++ r) = p ++ (e' ++ r') := by rw [← List.append_assoc, ← List.append_assoc, hr, hr']
    exact List.append_cancel_left this
  cases e with
  | nil => exact absurd rfl he
  | cons x e =>
    cases e' with
    | nil => exact absurd rfl he'
    | cons y e' =>
      simp at h
      simp [h.1]
theorem eachKid_more (name : List UInt8) (go : KidM → DownSt → Nat × DownSt) : ∀ (ks : List KidM) (s : DownSt),
    (∀ k ∈ ks, k.edge ≠ []) → HeadsApart ks → (∀ k ∈ ks, ∀ s, More (fun n => name ++ k.edge <+: n) s.out (go k s).2.out) →
    More (fun n => ∃ k ∈ ks, name ++ k.edge <+: n) s.out (eachKid go ks s).2.out
  | [], s, _, _, _ => More.refl _ _
  | k :: ks, s, hne, hap, hgo => by
    obtain ⟨L, hL, hp, hd⟩ := (hgo k (by simp) s).ex
    rw [eachKid]
    split
    · exact ⟨L, hL, fun x hx => ⟨k, by simp, hp x hx⟩, hd⟩
    · obtain ⟨L2, hL2, hp2, hd2⟩ := (eachKid_more name go ks (go k s).2 (fun x hx => hne x (by simp [hx])) (List.pairwise_cons.1 hap).2 (fun x hx s => hgo x (by simp [hx]) s)).ex
      refine ⟨L ++ L2, by rw [hL2, hL, List.append_assoc], fun x hx => ?_, List.pairwise_append.2 ⟨hd, hd2, fun x hx y hy he => ?_⟩⟩
      · rcases List.mem_append.1 hx with h | h
        · exact ⟨k, by simp, hp x h⟩
        · obtain ⟨k2, hk2, h2⟩ := hp2 x h
          exact ⟨k2, by simp [hk2], h2⟩
      · obtain ⟨k2, hk2, h2⟩ := hp2 y hy
        have h1 := hp x hx
        rw [he] at h1
        exact (List.pairwise_cons.1 hap).1 k2 hk2 (heads_apart h1 h2 (hne k (by simp)) (hne k2 (by simp [hk2])))
theorem downF_more (l : List UInt8) : ∀ (f : Nat) (at_ : Int) (name : List UInt8) (walk : List Int) (st : DownSt), More (fun n => name <+: n) st.out (downF l f at_ name walk st).2.out
  | 0, _, _, _, _ => More.refl _ _
  | f + 1, at_, name, walk, st => by
    rw [downF]
    split
    · exact More.refl _ _
    · split
      · exact More.refl _ _
      · split
        · exact More.refl _ _
        · split
          · exact More.refl _ _
          · cases hr : readM l at_.toNat with
            | none => exact More.refl _ _
            | some n =>
              dsimp only
              have hk := readM_kids hr
              have own : More (fun m => m = name) st.out (if n.ends then st.out ++ [{ n.says with name := name }] else st.out) := by
                split
                · exact ⟨[{ n.says with name := name }], rfl, by simp, by simp⟩
                · exact ⟨[], by simp, by simp, List.Pairwise.nil⟩
              obtain ⟨L, hL, hp, hd⟩ := own.ex
              by_cases h5 : 4096 < (if n.ends then st.out ++ [{ n.says with name := name }] else st.out).length
              · rw [if_pos h5]
                exact ⟨L, hL, fun x hx => by rw [hp x hx]; exact List.prefix_rfl, hd⟩
              · rw [if_neg h5]
                obtain ⟨L2, hL2, hp2, hd2⟩ := (eachKid_more name (fun k s => downF l f k.to (name ++ k.edge) (walk ++ [at_]) s) n.kids ⟨st.met + 1, if n.ends then st.out ++ [{ n.says with name := name }] else st.out⟩
                  (fun k hk' => (hk.1 k hk').1) hk.2 (fun k _ s => downF_more l f k.to (name ++ k.edge) (walk ++ [at_]) s)).ex
                refine ⟨L ++ L2, by rw [hL2, hL, List.append_assoc], fun x hx => ?_, List.pairwise_append.2 ⟨hd, hd2, fun x hx y hy he => ?_⟩⟩
                · rcases List.mem_append.1 hx with h | h
                  · rw [hp x h]; exact List.prefix_rfl
                  · obtain ⟨k, hk', r, hr'⟩ := hp2 x h
                    exact ⟨k.edge ++ r, by rw [← List.append_assoc]; exact hr'⟩
                · obtain ⟨k, hk', h2⟩ := hp2 y hy
                  rw [← he, hp x hx] at h2
                  have := h2.length_le
                  rw [List.length_append] at this
                  have := List.length_pos_iff.2 (hk.1 k hk').1
                  omega
/-- No two exports that are told have one name. -/
theorem allT_apart (l : List UInt8) : (allT l).2.Pairwise (fun x y => x.name ≠ y.name) := by
  unfold allT
  split
  · exact List.Pairwise.nil
  · split
    · exact List.Pairwise.nil
    · obtain ⟨L, hL, hp, hd⟩ := (downF_more l 257 0 [] [] ⟨0, []⟩).ex
      rw [hL]
      simpa using hd
/-- They are few. -/
theorem eachKid_few (go : KidM → DownSt → Nat × DownSt) (hgo : ∀ k s, s.out.length ≤ 4096 → (go k s).1 = 0 → (go k s).2.out.length ≤ 4096) : ∀ (ks : List KidM) (s : DownSt), s.out.length ≤ 4096 → (eachKid go ks s).1 = 0 → (eachKid go ks s).2.out.length ≤ 4096
  | [], s, hs, _ => hs
  | k :: ks, s, hs, h => by
    rw [eachKid] at h ⊢
    split at h
    · rename_i h1; exact absurd h h1
    · rename_i h1
      rw [if_neg h1]
      exact eachKid_few go hgo ks _ (hgo k s hs (by omega)) h
theorem downF_few (l : List UInt8) : ∀ (f : Nat) (at_ : Int) (name : List UInt8) (walk : List Int) (st : DownSt), st.out.length ≤ 4096 → (downF l f at_ name walk st).1 = 0 → (downF l f at_ name walk st).2.out.length ≤ 4096
  | 0, _, _, _, st, hs, h => hs
  | f + 1, at_, name, walk, st, hs, h => by
    rw [downF] at h ⊢
    split at h
    · cases h
    · rename_i h1
      rw [if_neg h1]
      split at h
      · cases h
      · rename_i h2
        rw [if_neg h2]
        split at h
        · cases h
        · rename_i h3
          rw [if_neg h3]
          split at h
          · cases h
          · rename_i h4
            rw [if_neg h4]
            cases hr : readM l at_.toNat with
            | none => rw [hr] at h; cases h
            | some n =>
              rw [hr] at h
              dsimp only at h ⊢
              by_cases h5 : 4096 < (if n.ends then st.out ++ [{ n.says with name := name }] else st.out).length
              · rw [if_pos h5] at h; cases h
              · rw [if_neg h5] at h ⊢
                exact eachKid_few _ (fun k s hs h => downF_few l f _ _ _ s hs h) _ _ (by show (if n.ends then st.out ++ [{ n.says with name := name }] else st.out).length ≤ 4096; omega) h
theorem allT_few (l : List UInt8) : (allT l).2.length ≤ 4096 := by
  unfold allT
  split
  · simp
  · split
    · simp
    · rename_i h
      exact downF_few l 257 0 [] [] ⟨0, []⟩ (by simp) (by omega)
end Go.Proofs.YthhjdkcnkdffcaaGreat

namespace Go.Proofs.YthhjdkcnkdffcaaGreat
set_option linter.unusedSimpArgs false
set_option linter.unusedVariables false
theorem downF_name {l : List UInt8} {f : Nat} {at_ : Int} {name : List UInt8} {walk : List Int} {st : DownSt} (h : 255 < name.length) : downF l f at_ name walk st = (10, { st with met := st.met + 1 }) := by
  cases f with
  | zero => rfl
  | succ f => rw [downF, if_pos h]
section
variable {l : List UInt8} {f : Nat} {at_ : Int} {name : List UInt8} {walk : List Int} {st : DownSt} (h1 : ¬ 255 < name.length)
include h1
theorem downF_walk (h2 : walk.contains at_ = true) : downF l (f + 1) at_ name walk st = (12, { st with met := st.met + 1 }) := by rw [downF, if_neg h1, if_pos h2]
theorem downF_many (h2 : ¬ walk.contains at_ = true) (h3 : 8192 < st.met + 1) : downF l (f + 1) at_ name walk st = (11, { st with met := st.met + 1 }) := by rw [downF, if_neg h1, if_neg h2, if_pos h3]
theorem downF_neg (h2 : ¬ walk.contains at_ = true) (h3 : ¬ 8192 < st.met + 1) (h4 : at_ < 0) : downF l (f + 1) at_ name walk st = (12, { st with met := st.met + 1 }) := by rw [downF, if_neg h1, if_neg h2, if_neg h3, if_pos h4]
theorem downF_none (h2 : ¬ walk.contains at_ = true) (h3 : ¬ 8192 < st.met + 1) (h4 : ¬ at_ < 0) (h5 : readM l at_.toNat = none) : downF l (f + 1) at_ name walk st = (12, { st with met := st.met + 1 }) := by rw [downF, if_neg h1, if_neg h2, if_neg h3, if_neg h4, h5]
end
/-- What is told behind a node. -/
def outN (n : NodeM) (name : List UInt8) (out : List Exp) : List Exp := if n.ends then out ++ [{ n.says with name := name }] else out
theorem downF_most {l : List UInt8} {f : Nat} {at_ : Int} {name : List UInt8} {walk : List Int} {st : DownSt} {n : NodeM} (h1 : ¬ 255 < name.length) (h2 : ¬ walk.contains at_ = true) (h3 : ¬ 8192 < st.met + 1) (h4 : ¬ at_ < 0) (h5 : readM l at_.toNat = some n) (h6 : 4096 < (outN n name st.out).length) :
    downF l (f + 1) at_ name walk st = (11, ⟨st.met + 1, outN n name st.out⟩) := by
  unfold outN at h6 ⊢
  rw [downF, if_neg h1, if_neg h2, if_neg h3, if_neg h4, h5]
  dsimp only
  rw [if_pos h6]
theorem downF_kids {l : List UInt8} {f : Nat} {at_ : Int} {name : List UInt8} {walk : List Int} {st : DownSt} {n : NodeM} (h1 : ¬ 255 < name.length) (h2 : ¬ walk.contains at_ = true) (h3 : ¬ 8192 < st.met + 1) (h4 : ¬ at_ < 0) (h5 : readM l at_.toNat = some n) (h6 : ¬ 4096 < (outN n name st.out).length) :
    downF l (f + 1) at_ name walk st = eachKid (fun k s => downF l f k.to (name ++ k.edge) (walk ++ [at_]) s) n.kids ⟨st.met + 1, outN n name st.out⟩ := by
  unfold outN at h6 ⊢
  rw [downF, if_neg h1, if_neg h2, if_neg h3, if_neg h4, h5]
  dsimp only
  rw [if_neg h6]
theorem eachKid_stop {go : KidM → DownSt → Nat × DownSt} {k : KidM} {r : List KidM} {st : DownSt} (h : (go k st).1 ≠ 0) : eachKid go (k :: r) st = go k st := by rw [eachKid, if_pos h]
theorem eachKid_on {go : KidM → DownSt → Nat × DownSt} {k : KidM} {r : List KidM} {st : DownSt} (h : (go k st).1 = 0) : eachKid go (k :: r) st = eachKid go r (go k st).2 := by rw [eachKid, if_neg (by omega)]
theorem eachKid_met (go : KidM → DownSt → Nat × DownSt) (hgo : ∀ k s, s.met ≤ 8192 → (go k s).1 = 0 → (go k s).2.met ≤ 8192) : ∀ (ks : List KidM) (s : DownSt), s.met ≤ 8192 → (eachKid go ks s).1 = 0 → (eachKid go ks s).2.met ≤ 8192
  | [], s, hs, _ => hs
  | k :: ks, s, hs, h => by
    rw [eachKid] at h ⊢
    split at h
    · rename_i h1; exact absurd h h1
    · rename_i h1
      rw [if_neg h1]
      exact eachKid_met go hgo ks _ (hgo k s hs (by omega)) h
theorem downF_met (l : List UInt8) : ∀ (f : Nat) (at_ : Int) (name : List UInt8) (walk : List Int) (st : DownSt), st.met ≤ 8192 → (downF l f at_ name walk st).1 = 0 → (downF l f at_ name walk st).2.met ≤ 8192
  | 0, _, _, _, st, hs, h => by cases h
  | f + 1, at_, name, walk, st, hs, h => by
    by_cases h1 : 255 < name.length
    · rw [downF_name h1] at h; cases h
    by_cases h2 : walk.contains at_ = true
    · rw [downF_walk h1 h2] at h; cases h
    by_cases h3 : 8192 < st.met + 1
    · rw [downF_many h1 h2 h3] at h; cases h
    by_cases h4 : at_ < 0
    · rw [downF_neg h1 h2 h3 h4] at h; cases h
    cases h5 : readM l at_.toNat with
    | none => rw [downF_none h1 h2 h3 h4 h5] at h; cases h
    | some n =>
      by_cases h6 : 4096 < (outN n name st.out).length
      · rw [downF_most h1 h2 h3 h4 h5 h6] at h; cases h
      · rw [downF_kids h1 h2 h3 h4 h5 h6] at h ⊢
        exact eachKid_met _ (fun k s hs h => downF_met l f _ _ _ s hs h) _ _ (by show st.met + 1 ≤ 8192; omega) h
theorem outN_len (n : NodeM) (name : List UInt8) (out : List Exp) : (outN n name out).length ≤ out.length + 1 := by
  unfold outN; split <;> simp
end Go.Proofs.YthhjdkcnkdffcaaGreat

namespace Go.Proofs.YthhjdkcnkdffcaaGreat
set_option linter.unusedSimpArgs false
set_option linter.unusedVariables false
section
variable {l name : List UInt8} {f : Nat} {at_ : Int} {rest : List UInt8} {walk : List Int}
theorem findF_lost (h : at_ < 0 ∨ walk.contains at_ = true) : findF l name (f + 1) at_ rest walk = (Exp.zero, false, 12) := by rw [findF, if_pos h]
theorem findF_none (h : ¬ (at_ < 0 ∨ walk.contains at_ = true)) (hr : readM l at_.toNat = none) : findF l name (f + 1) at_ rest walk = (Exp.zero, false, 12) := by rw [findF, if_neg h, hr]
theorem findF_here {n : NodeM} (h : ¬ (at_ < 0 ∨ walk.contains at_ = true)) (hr : readM l at_.toNat = some n) (h0 : rest = []) : findF l name (f + 1) at_ rest walk = if n.ends then ({ n.says with name := name }, true, 0) else (Exp.zero, false, 0) := by
  rw [findF, if_neg h, hr]; dsimp only; rw [if_pos h0]
theorem findF_out {n : NodeM} (h : ¬ (at_ < 0 ∨ walk.contains at_ = true)) (hr : readM l at_.toNat = some n) (h0 : rest ≠ []) (hk : n.kids.find? (fun k => k.edge.isPrefixOf rest) = none) : findF l name (f + 1) at_ rest walk = (Exp.zero, false, 0) := by
  rw [findF, if_neg h, hr]; dsimp only; rw [if_neg h0, hk]
theorem findF_on {n : NodeM} {k : KidM} (h : ¬ (at_ < 0 ∨ walk.contains at_ = true)) (hr : readM l at_.toNat = some n) (h0 : rest ≠ []) (hk : n.kids.find? (fun k => k.edge.isPrefixOf rest) = some k) :
    findF l name (f + 1) at_ rest walk = findF l name f k.to (rest.drop k.edge.length) (walk ++ [at_]) := by
  rw [findF, if_neg h, hr]; dsimp only; rw [if_neg h0, hk]
end
instance : Inhabited KidM := ⟨⟨[], 0⟩⟩
/-- The first child that goes on. -/
theorem find_at {l : List KidM} {p : KidM → Bool} {k : KidM} (h : l.find? p = some k) : ∃ i : Nat, l[i]? = some k ∧ p k = true ∧ ∀ j : Nat, j < i → p l[j]! = false := by
  induction l with
  | nil => cases h
  | cons y l ih =>
    rw [List.find?_cons] at h
    cases hy : p y with
    | true =>
      rw [hy] at h
      cases h
      exact ⟨0, rfl, hy, fun j hj => absurd hj (Nat.not_lt_zero _)⟩
    | false =>
      rw [hy] at h
      obtain ⟨i, h1, h2, h3⟩ := ih h
      refine ⟨i + 1, by simpa using h1, h2, fun j hj => ?_⟩
      cases j with
      | zero => simpa using hy
      | succ j => simpa using h3 j (by omega)
theorem find_not {l : List KidM} {p : KidM → Bool} (h : l.find? p = none) : ∀ j, j < l.length → p l[j]! = false := by
  intro j hj
  have := List.find?_eq_none.1 h (l[j]) (List.getElem_mem hj)
  rw [getElem!_pos l j hj]
  simpa using this
/-- Of what is left of the name, as many steps are enough. -/
theorem findF_fuel {l name : List UInt8} : ∀ {f g : Nat} {at_ : Int} {rest : List UInt8} {walk : List Int}, rest.length < f → rest.length < g → findF l name f at_ rest walk = findF l name g at_ rest walk
  | 0, _, _, _, _, h, _ => absurd h (Nat.not_lt_zero _)
  | _, 0, _, _, _, _, h => absurd h (Nat.not_lt_zero _)
  | f + 1, g + 1, at_, rest, walk, hf, hg => by
    by_cases hl : at_ < 0 ∨ walk.contains at_ = true
    · rw [findF_lost hl, findF_lost hl]
    · cases hr : readM l at_.toNat with
      | none => rw [findF_none hl hr, findF_none hl hr]
      | some n =>
        by_cases h0 : rest = []
        · rw [findF_here hl hr h0, findF_here hl hr h0]
        · cases hk : n.kids.find? (fun k => k.edge.isPrefixOf rest) with
          | none => rw [findF_out hl hr h0 hk, findF_out hl hr h0 hk]
          | some k =>
            rw [findF_on hl hr h0 hk, findF_on hl hr h0 hk]
            have h1 := List.length_pos_iff.2 ((readM_kids hr).1 k (List.mem_of_find?_eq_some hk)).1
            have h2 := List.length_pos_iff.2 h0
            exact findF_fuel (by rw [List.length_drop]; omega) (by rw [List.length_drop]; omega)
end Go.Proofs.YthhjdkcnkdffcaaGreat

namespace Go.Proofs.YthhjdkcnkdffcaaGreat
set_option linter.unusedSimpArgs false
set_option linter.unusedVariables false
/-- What a list of exports says of a name. -/
def sayL (L : List Exp) (name : List UInt8) : Exp × Bool × Nat :=
  match L.find? (fun x => x.name == name) with
  | some x => (x, true, 0)
  | none => (Exp.zero, false, 0)
/-- The exports L are what is told from a place on, under a name. -/
structure Tells (l : List UInt8) (at_ : Int) (name : List UInt8) (walk : List Int) (L : List Exp) : Prop where
  pre : ∀ x ∈ L, name <+: x.name
  says : ∀ rest f, rest.length < f → findF l (name ++ rest) f at_ rest walk = sayL L (name ++ rest)
theorem find_none_pre {L : List Exp} {name full : List UInt8} (h : ∀ x ∈ L, name <+: x.name) (hn : ¬ name <+: full) : L.find? (fun x => x.name == full) = none := by
  rw [List.find?_eq_none]
  intro x hx e
  have e : x.name = full := by simpa using e
  exact hn (e ▸ h x hx)
theorem pre_append {name e full : List UInt8} : name ++ e <+: name ++ full ↔ e <+: full := List.prefix_append_right_inj name
/-- The children, all told. -/
theorem eachKid_tells (l : List UInt8) (name : List UInt8) (walk : List Int) (go : KidM → DownSt → Nat × DownSt) : ∀ (ks : List KidM) (s s' : DownSt),
    (∀ k ∈ ks, k.edge ≠ []) → HeadsApart ks → (∀ k ∈ ks, ∀ s s', go k s = (0, s') → ∃ L, s'.out = s.out ++ L ∧ Tells l k.to (name ++ k.edge) walk L) → eachKid go ks s = (0, s') →
    ∃ L, s'.out = s.out ++ L ∧ (∀ x ∈ L, ∃ k ∈ ks, name ++ k.edge <+: x.name) ∧ ∀ rest f, rest.length ≤ f → rest ≠ [] →
      match ks.find? (fun k => k.edge.isPrefixOf rest) with
      | none => sayL L (name ++ rest) = (Exp.zero, false, 0)
      | some k => findF l (name ++ rest) f k.to (rest.drop k.edge.length) walk = sayL L (name ++ rest)
  | [], s, s', _, _, _, h => by
    cases h
    exact ⟨[], by simp, by simp, fun _ _ _ _ => rfl⟩
  | k :: ks, s, s', hne, hap, hgo, h => by
    rw [eachKid] at h
    by_cases h1 : (go k s).1 ≠ 0
    · rw [if_pos h1] at h
      rw [h] at h1
      exact absurd rfl h1
    · rw [if_neg h1] at h
      obtain ⟨L1, hL1, ht⟩ := hgo k (by simp) s (go k s).2 (by
        have : (go k s).1 = 0 := by omega
        rw [← this])
      obtain ⟨L2, hL2, hp2, hs2⟩ := eachKid_tells l name walk go ks (go k s).2 s' (fun x hx => hne x (by simp [hx])) (List.pairwise_cons.1 hap).2 (fun x hx => hgo x (by simp [hx])) h
      refine ⟨L1 ++ L2, by rw [hL2, hL1, List.append_assoc], fun x hx => ?_, fun rest f hf hr => ?_⟩
      · rcases List.mem_append.1 hx with h' | h'
        · exact ⟨k, by simp, ht.pre x h'⟩
        · obtain ⟨k2, hk2, hx2⟩ := hp2 x h'
          exact ⟨k2, by simp [hk2], hx2⟩
      · rw [List.find?_cons]
        cases hk : k.edge.isPrefixOf rest with
        | true =>
          dsimp only
          have hpre : k.edge <+: rest := List.isPrefixOf_iff_prefix.1 hk
          obtain ⟨t, rfl⟩ := hpre
          have hlen : 0 < k.edge.length := List.length_pos_iff.2 (hne k (by simp))
          rw [List.drop_left]
          have := ht.says t f (by rw [List.length_append] at hf; omega)
          rw [List.append_assoc] at this
          rw [this]
          unfold sayL
          rw [List.find?_append]
          have hn2 : L2.find? (fun x => x.name == name ++ (k.edge ++ t)) = none := by
            rw [List.find?_eq_none]
            intro x hx e
            have e : x.name = name ++ (k.edge ++ t) := by simpa using e
            obtain ⟨k2, hk2, hx2⟩ := hp2 x hx
            rw [e] at hx2
            exact (List.pairwise_cons.1 hap).1 k2 hk2 (heads_apart (p := name) (n := name ++ (k.edge ++ t)) ⟨t, by simp⟩ hx2 (hne k (by simp)) (hne k2 (by simp [hk2])))
          rw [hn2, Option.or_none]
        | false =>
          dsimp only
          have hn1 : L1.find? (fun x => x.name == name ++ rest) = none := by
            refine find_none_pre ht.pre (fun hp => ?_)
            have := List.isPrefixOf_iff_prefix.2 (pre_append.1 hp)
            rw [hk] at this; cases this
          have := hs2 rest f hf hr
          have he : sayL (L1 ++ L2) (name ++ rest) = sayL L2 (name ++ rest) := by
            unfold sayL
            rw [List.find?_append, hn1, Option.none_or]
          rw [he]
          exact this
/-- Where all is told, a name is said as it is told. -/
theorem downF_tells (l : List UInt8) : ∀ (f : Nat) (at_ : Int) (name : List UInt8) (walk : List Int) (st st' : DownSt), downF l f at_ name walk st = (0, st') → ∃ L, st'.out = st.out ++ L ∧ Tells l at_ name walk L
  | 0, _, _, _, _, _, h => by cases h
  | f + 1, at_, name, walk, st, st', h => by
    by_cases h1 : 255 < name.length
    · rw [downF_name h1] at h; cases h
    by_cases h2 : walk.contains at_ = true
    · rw [downF_walk h1 h2] at h; cases h
    by_cases h3 : 8192 < st.met + 1
    · rw [downF_many h1 h2 h3] at h; cases h
    by_cases h4 : at_ < 0
    · rw [downF_neg h1 h2 h3 h4] at h; cases h
    cases h5 : readM l at_.toNat with
    | none => rw [downF_none h1 h2 h3 h4 h5] at h; cases h
    | some n =>
      by_cases h6 : 4096 < (outN n name st.out).length
      · rw [downF_most h1 h2 h3 h4 h5 h6] at h; cases h
      · rw [downF_kids h1 h2 h3 h4 h5 h6] at h
        have hk := readM_kids h5
        have hlost : ¬ (at_ < 0 ∨ walk.contains at_ = true) := fun h => h.elim h4 h2
        obtain ⟨L, hL, hp, hs⟩ := eachKid_tells l name (walk ++ [at_]) _ n.kids ⟨st.met + 1, outN n name st.out⟩ st' (fun k hk' => (hk.1 k hk').1) hk.2 (fun k _ s s' hs => downF_tells l f k.to (name ++ k.edge) (walk ++ [at_]) s s' hs) h
        obtain ⟨O, hO, hOn⟩ : ∃ O, outN n name st.out = st.out ++ O ∧ O = if n.ends then [{ n.says with name := name }] else [] := ⟨_, by unfold outN; split <;> simp, rfl⟩
        refine ⟨O ++ L, by rw [hL]; show outN n name st.out ++ L = _; rw [hO, List.append_assoc], fun x hx => ?_, fun rest g hg => ?_⟩
        · rcases List.mem_append.1 hx with h' | h'
          · rw [hOn] at h'
            split at h'
            · simp at h'; rw [h']; exact List.prefix_rfl
            · cases h'
          · obtain ⟨k, _, r, hr⟩ := hp x h'
            exact ⟨k.edge ++ r, by rw [← List.append_assoc]; exact hr⟩
        · obtain ⟨g, rfl⟩ : ∃ j, g = j + 1 := ⟨g - 1, by omega⟩
          by_cases hr : rest = []
          · subst hr
            rw [findF_here hlost h5 rfl, List.append_nil]
            have hnL : L.find? (fun x => x.name == name) = none := by
              rw [List.find?_eq_none]
              intro x hx e
              have e : x.name = name := by simpa using e
              obtain ⟨k, hk', hx2⟩ := hp x hx
              have h7 := hx2.length_le
              have h8 := List.length_pos_iff.2 (hk.1 k hk').1
              rw [e, List.length_append] at h7
              omega
            unfold sayL
            rw [List.find?_append, hnL, Option.or_none, hOn]
            cases n.ends <;> simp
          · have hnO : O.find? (fun x => x.name == name ++ rest) = none := by
              rw [hOn]
              split
              · have h9 := List.length_pos_iff.2 hr
                simp
                omega
              · rfl
            have he : sayL (O ++ L) (name ++ rest) = sayL L (name ++ rest) := by
              unfold sayL
              rw [List.find?_append, hnO, Option.none_or]
            rw [he]
            have := hs rest g (by omega) hr
            cases hf : n.kids.find? (fun k => k.edge.isPrefixOf rest) with
            | none =>
              rw [hf] at this
              rw [findF_out hlost h5 hr hf]
              exact this.symm
            | some k =>
              rw [hf] at this
              rw [findF_on hlost h5 hr hf]
              exact this
/-- A name is said as all tell it. -/
theorem findT_all {l name : List UInt8} (h : (allT l).1 = 0) (hn : name.length ≤ 255) : findT l name = sayL (allT l).2 name := by
  unfold findT
  rw [if_neg (by omega)]
  by_cases hl : l = []
  · subst hl
    rfl
  · rw [if_neg hl]
    have ha : allT l = if (downF l 257 0 [] [] ⟨0, []⟩).1 ≠ 0 then ((downF l 257 0 [] [] ⟨0, []⟩).1, []) else (0, (downF l 257 0 [] [] ⟨0, []⟩).2.out) := by
      unfold allT
      rw [if_neg hl]
    by_cases hz : (downF l 257 0 [] [] ⟨0, []⟩).1 = 0
    · rw [if_neg (by omega)] at ha
      rw [ha]
      obtain ⟨L, hL, ht⟩ := downF_tells l 257 0 [] [] ⟨0, []⟩ (downF l 257 0 [] [] ⟨0, []⟩).2 (Prod.ext hz rfl)
      rw [hL]
      exact ht.says name (name.length + 1) (by omega)
    · rw [if_pos hz] at ha
      rw [ha] at h
      exact absurd h hz
end Go.Proofs.YthhjdkcnkdffcaaGreat
