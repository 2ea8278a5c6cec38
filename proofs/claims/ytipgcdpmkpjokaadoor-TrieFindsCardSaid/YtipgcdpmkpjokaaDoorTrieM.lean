/- Tries, as plain laws: what stands at a place, what is said of a name, all that are told. No program in sight. -/
import Derived.Test.YtipgcdpmkpjokaaDoorLebM
namespace Go.Proofs.YtipgcdpmkpjokaaDoor
set_option linter.unusedSimpArgs false
set_option linter.unusedVariables false

/-- An export. -/
structure Exp where
  name : List UInt8
  kind : Int
  weak : Bool
  value : Nat
  resolver : Nat
  ordinal : Nat
  other : List UInt8

def Exp.zero : Exp := ⟨[], 0, false, 0, 0, 0, []⟩
def Exp.cells (x : Exp) : List Value := [.string (mkS x.name), .int .i64 x.kind, .bool x.weak, .int .u64 x.value, .int .u64 x.resolver, .int .u64 x.ordinal, .string (mkS x.other)]

/-- A text ahead, of at most 255 bytes, and how many bytes it takes. -/
def textR (b : List UInt8) : Option (List UInt8 × Nat) :=
  if nul b < b.length ∧ nul b ≤ 255 then some (b.take (nul b), nul b + 1) else none

/-- Flags, but for that of weak ones. -/
def bareF (flags : Nat) : Nat := if flags / 4 % 2 = 1 then flags - 4 else flags

/-- What is said behind the flags, and how many bytes all are. -/
def saysF (fl : Nat) (wk : Bool) (k : Nat) (b : List UInt8) : Option (Exp × Nat) :=
  if fl = 8 then
    match ulebM (b.drop k) with
    | none => none
    | some (o, k2) =>
      match textR (b.drop (k + k2)) with
      | none => none
      | some (t, k3) => some (⟨[], 3, wk, 0, 0, o, t⟩, k + k2 + k3)
  else if fl = 0 then
    match ulebM (b.drop k) with
    | none => none
    | some (v, k2) => some (⟨[], 1, wk, v, 0, 0, []⟩, k + k2)
  else if fl = 2 then
    match ulebM (b.drop k) with
    | none => none
    | some (v, k2) => some (⟨[], 2, wk, v, 0, 0, []⟩, k + k2)
  else if fl = 16 then
    match ulebM (b.drop k) with
    | none => none
    | some (v, k2) =>
      match ulebM (b.drop (k + k2)) with
      | none => none
      | some (r, k3) => some (⟨[], 4, wk, v, r, 0, []⟩, k + k2 + k3)
  else none

/-- What is said of a name by the bytes ahead, and how many they are. -/
def saysR (b : List UInt8) : Option (Exp × Nat) :=
  match ulebM b with
  | none => none
  | some p => saysF (bareF p.1) (p.1 / 4 % 2 == 1) p.2 b

/-- A child: its edge, its place (below 0: it is not there). -/
structure KidM where
  edge : List UInt8
  to : Int

/-- A node. -/
structure NodeM where
  ends : Bool
  says : Exp
  kids : List KidM

def placeM (n all : Nat) : Int := if all ≤ n then -1 else n

/-- So many children ahead, behind those that were read. -/
def kidsR (all : Nat) : Nat → List UInt8 → List KidM → Option (List KidM)
  | 0, _, acc => some acc
  | n + 1, b, acc =>
    match textR b with
    | none => none
    | some (e, k) =>
      match ulebM (b.drop k) with
      | none => none
      | some (to, k2) =>
        if e = [] then none
        else if acc.any (fun x => x.edge.head? == e.head?) then none
        else kidsR all n (b.drop (k + k2)) (acc ++ [⟨e, placeM to all⟩])

/-- The node at a place. -/
def readM (l : List UInt8) (at_ : Nat) : Option NodeM :=
  match ulebM (l.drop at_) with
  | none => none
  | some (size, k) =>
    if l.length - (at_ + k) < size then none
    else
      match (if size = 0 then some Exp.zero else match saysR (l.drop (at_ + k)) with
        | none => none
        | some (x, k2) => if k2 = size then some x else none) with
      | none => none
      | some x =>
        match l[at_ + k + size]? with
        | none => none
        | some m =>
          match kidsR l.length m.toNat (l.drop (at_ + k + size + 1)) [] with
          | none => none
          | some ks => some ⟨decide (0 < size), x, ks⟩

theorem kidsR_ne {all : Nat} : ∀ (n : Nat) (b : List UInt8) (acc ks : List KidM), kidsR all n b acc = some ks → (∀ x ∈ acc, x.edge ≠ [] ∧ x.edge.length ≤ 255) → ∀ x ∈ ks, x.edge ≠ [] ∧ x.edge.length ≤ 255
  | 0, b, acc, ks, h, ha => by cases h; exact ha
  | n + 1, b, acc, ks, h, ha => by
    rw [kidsR] at h
    cases ht : textR b with
    | none => rw [ht] at h; cases h
    | some p =>
      obtain ⟨e, k⟩ := p
      rw [ht] at h
      dsimp only at h
      cases hu : ulebM (b.drop k) with
      | none => rw [hu] at h; cases h
      | some q =>
        obtain ⟨to, k2⟩ := q
        rw [hu] at h
        dsimp only at h
        by_cases he : e = []
        · rw [if_pos he] at h; cases h
        · rw [if_neg he] at h
          split at h
          · cases h
          · refine kidsR_ne n _ _ _ h (fun x hx => ?_)
            rcases List.mem_append.1 hx with h1 | h1
            · exact ha x h1
            · simp at h1; subst h1
              refine ⟨he, ?_⟩
              unfold textR at ht
              split at ht
              · rename_i hc
                cases ht
                rw [List.length_take]; omega
              · cases ht

/-- No two children begin alike. -/
def HeadsApart (ks : List KidM) : Prop := ks.Pairwise (fun a b => a.edge.head? ≠ b.edge.head?)

theorem kidsR_apart {all : Nat} : ∀ (n : Nat) (b : List UInt8) (acc ks : List KidM), kidsR all n b acc = some ks → HeadsApart acc → HeadsApart ks
  | 0, b, acc, ks, h, ha => by cases h; exact ha
  | n + 1, b, acc, ks, h, ha => by
    rw [kidsR] at h
    cases ht : textR b with
    | none => rw [ht] at h; cases h
    | some p =>
      obtain ⟨e, k⟩ := p
      rw [ht] at h
      dsimp only at h
      cases hu : ulebM (b.drop k) with
      | none => rw [hu] at h; cases h
      | some q =>
        obtain ⟨to, k2⟩ := q
        rw [hu] at h
        dsimp only at h
        split at h
        · cases h
        · split at h
          · cases h
          · rename_i hany
            refine kidsR_apart n _ _ _ h (List.pairwise_append.2 ⟨ha, by simp, fun a ha' b' hb' => ?_⟩)
            simp at hb'; subst hb'
            intro heq
            exact hany (List.any_eq_true.2 ⟨a, ha', by simp [heq]⟩)

theorem readM_kids {l : List UInt8} {at_ : Nat} {n : NodeM} (h : readM l at_ = some n) : (∀ x ∈ n.kids, x.edge ≠ [] ∧ x.edge.length ≤ 255) ∧ HeadsApart n.kids := by
  unfold readM at h
  cases hu : ulebM (l.drop at_) with
  | none => rw [hu] at h; cases h
  | some p =>
    obtain ⟨size, k⟩ := p
    rw [hu] at h
    dsimp only at h
    split at h
    · cases h
    · split at h
      · cases h
      · split at h
        · cases h
        · split at h
          · cases h
          · rename_i hk
            cases h
            exact ⟨kidsR_ne _ _ _ _ hk (by simp), kidsR_apart _ _ _ _ hk List.Pairwise.nil⟩

/-! ### what is said of a name -/
/-- From a place on: the export, is it said, an error. -/
def findF (l : List UInt8) (name : List UInt8) : Nat → Int → List UInt8 → List Int → Exp × Bool × Nat
  | 0, _, _, _ => (Exp.zero, false, 0)
  | f + 1, at_, rest, walk =>
    if at_ < 0 ∨ walk.contains at_ = true then (Exp.zero, false, 12)
    else
      match readM l at_.toNat with
      | none => (Exp.zero, false, 12)
      | some n =>
        if rest = [] then (if n.ends then ({ n.says with name := name }, true, 0) else (Exp.zero, false, 0))
        else
          match n.kids.find? (fun k => k.edge.isPrefixOf rest) with
          | none => (Exp.zero, false, 0)
          | some k => findF l name f k.to (rest.drop k.edge.length) (walk ++ [at_])

def findT (l name : List UInt8) : Exp × Bool × Nat :=
  if 255 < name.length then (Exp.zero, false, 10)
  else if l = [] then (Exp.zero, false, 0)
  else findF l name (name.length + 1) 0 name []

/-! ### all that are told -/
structure DownSt where
  met : Nat
  out : List Exp

/-- One child behind the other, till an error. -/
def eachKid (go : KidM → DownSt → Nat × DownSt) : List KidM → DownSt → Nat × DownSt
  | [], st => (0, st)
  | k :: r, st => if (go k st).1 ≠ 0 then go k st else eachKid go r (go k st).2

/-- From a place on, whose name is that, behind a walk: an error, and what was told. -/
def downF (l : List UInt8) : Nat → Int → List UInt8 → List Int → DownSt → Nat × DownSt
  | 0, _, _, _, st => (10, { st with met := st.met + 1 })
  | f + 1, at_, name, walk, st =>
    if 255 < name.length then (10, { st with met := st.met + 1 })
    else if walk.contains at_ = true then (12, { st with met := st.met + 1 })
    else if 8192 < st.met + 1 then (11, { st with met := st.met + 1 })
    else if at_ < 0 then (12, { st with met := st.met + 1 })
    else
      match readM l at_.toNat with
      | none => (12, { st with met := st.met + 1 })
      | some n =>
        if 4096 < (if n.ends then st.out ++ [{ n.says with name := name }] else st.out).length then (11, ⟨st.met + 1, if n.ends then st.out ++ [{ n.says with name := name }] else st.out⟩)
        else eachKid (fun k s => downF l f k.to (name ++ k.edge) (walk ++ [at_]) s) n.kids ⟨st.met + 1, if n.ends then st.out ++ [{ n.says with name := name }] else st.out⟩

def allT (l : List UInt8) : Nat × List Exp :=
  if l = [] then (0, [])
  else if (downF l 257 0 [] [] ⟨0, []⟩).1 ≠ 0 then ((downF l 257 0 [] [] ⟨0, []⟩).1, []) else (0, (downF l 257 0 [] [] ⟨0, []⟩).2.out)

end Go.Proofs.YtipgcdpmkpjokaaDoor
