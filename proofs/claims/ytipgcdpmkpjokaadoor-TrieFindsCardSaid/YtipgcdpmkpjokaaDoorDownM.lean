/- All that a trie tells, step by step: plain laws. No program in sight. -/
import Derived.Test.YtipgcdpmkpjokaaDoorTrieN
namespace Go.Proofs.YtipgcdpmkpjokaaDoor
set_option linter.unusedSimpArgs false
set_option linter.unusedVariables false

theorem downF_name {l : List UInt8} {f : Nat} {at_ : Int} {name : List UInt8} {walk : List Int} {st : DownSt} (h : 255 < name.length) : downF l f at_ name walk st = (10, { st with met := st.met + 1 }) := by
  cases f with
  | zero => rfl
  | succ f => rw [downF, if_pos h]

section
variable {l : List UInt8} {f : Nat} {at_ : Int} {name : List UInt8} {walk : List Int} {st : DownSt} (h1 : ¬ 255 < name.length)
include h1
theorem downF_walk (h2 : walk.contains at_ = true) : downF l (f + 1) at_ name walk st = (12, { st with met := st.met + 1 }) := by rw [downF, if_neg h1, if_pos h2]
theorem downF_many (h2 : ¬ walk.contains at_ = true) (h3 : 8192 < st.met + 1) : downF l (f + 1) at_ name walk st = (11, { st with met := st.met + 1 }) := by rw [downF, if_neg h1, if_neg h2, if_pos h3]
theorem downF_neg (h2 : ¬ walk.contains at_ = true) (h3 : ¬ 8192 < st.met + 1) (h4 : at_ < 0) : downF l (f + 1) at_ name walk st = (12, { st with met := st.met + 1 }) := by rw [downF, if_neg h1, if_neg h2, if_neg h3, if_pos h4]
theorem downF_none (h2 : ¬ walk.contains at_ = true) (h3 : ¬ 8192 < st.met + 1) (h4 : ¬ at_ < 0) (h5 : readM l at_.toNat = none) : downF l (f + 1) at_ name walk st = (12, { st with met := st.met + 1 }) := by rw [downF, if_neg h1, if_neg h2, if_neg h3, if_neg h4, h5]
end

/-- What is told behind a node. -/
def outN (n : NodeM) (name : List UInt8) (out : List Exp) : List Exp := if n.ends then out ++ [{ n.says with name := name }] else out

theorem downF_most {l : List UInt8} {f : Nat} {at_ : Int} {name : List UInt8} {walk : List Int} {st : DownSt} {n : NodeM} (h1 : ¬ 255 < name.length) (h2 : ¬ walk.contains at_ = true) (h3 : ¬ 8192 < st.met + 1) (h4 : ¬ at_ < 0) (h5 : readM l at_.toNat = some n) (h6 : 4096 < (outN n name st.out).length) :
    downF l (f + 1) at_ name walk st = (11, ⟨st.met + 1, outN n name st.out⟩) := by
  unfold outN at h6 ⊢
  rw [downF, if_neg h1, if_neg h2, if_neg h3, if_neg h4, h5]
  dsimp only
  rw [if_pos h6]

theorem downF_kids {l : List UInt8} {f : Nat} {at_ : Int} {name : List UInt8} {walk : List Int} {st : DownSt} {n : NodeM} (h1 : ¬ 255 < name.length) (h2 : ¬ walk.contains at_ = true) (h3 : ¬ 8192 < st.met + 1) (h4 : ¬ at_ < 0) (h5 : readM l at_.toNat = some n) (h6 : ¬ 4096 < (outN n name st.out).length) :
    downF l (f + 1) at_ name walk st = eachKid (fun k s => downF l f k.to (name ++ k.edge) (walk ++ [at_]) s) n.kids ⟨st.met + 1, outN n name st.out⟩ := by
  unfold outN at h6 ⊢
  rw [downF, if_neg h1, if_neg h2, if_neg h3, if_neg h4, h5]
  dsimp only
  rw [if_neg h6]

theorem eachKid_stop {go : KidM → DownSt → Nat × DownSt} {k : KidM} {r : List KidM} {st : DownSt} (h : (go k st).1 ≠ 0) : eachKid go (k :: r) st = go k st := by rw [eachKid, if_pos h]
theorem eachKid_on {go : KidM → DownSt → Nat × DownSt} {k : KidM} {r : List KidM} {st : DownSt} (h : (go k st).1 = 0) : eachKid go (k :: r) st = eachKid go r (go k st).2 := by rw [eachKid, if_neg (by omega)]

theorem eachKid_met (go : KidM → DownSt → Nat × DownSt) (hgo : ∀ k s, s.met ≤ 8192 → (go k s).1 = 0 → (go k s).2.met ≤ 8192) : ∀ (ks : List KidM) (s : DownSt), s.met ≤ 8192 → (eachKid go ks s).1 = 0 → (eachKid go ks s).2.met ≤ 8192
  | [], s, hs, _ => hs
  | k :: ks, s, hs, h => by
    rw [eachKid] at h ⊢
    split at h
    · rename_i h1; exact absurd h h1
    · rename_i h1
      rw [if_neg h1]
      exact eachKid_met go hgo ks _ (hgo k s hs (by omega)) h

theorem downF_met (l : List UInt8) : ∀ (f : Nat) (at_ : Int) (name : List UInt8) (walk : List Int) (st : DownSt), st.met ≤ 8192 → (downF l f at_ name walk st).1 = 0 → (downF l f at_ name walk st).2.met ≤ 8192
  | 0, _, _, _, st, hs, h => by cases h
  | f + 1, at_, name, walk, st, hs, h => by
    by_cases h1 : 255 < name.length
    · rw [downF_name h1] at h; cases h
    by_cases h2 : walk.contains at_ = true
    · rw [downF_walk h1 h2] at h; cases h
    by_cases h3 : 8192 < st.met + 1
    · rw [downF_many h1 h2 h3] at h; cases h
    by_cases h4 : at_ < 0
    · rw [downF_neg h1 h2 h3 h4] at h; cases h
    cases h5 : readM l at_.toNat with
    | none => rw [downF_none h1 h2 h3 h4 h5] at h; cases h
    | some n =>
      by_cases h6 : 4096 < (outN n name st.out).length
      · rw [downF_most h1 h2 h3 h4 h5 h6] at h; cases h
      · rw [downF_kids h1 h2 h3 h4 h5 h6] at h ⊢
        exact eachKid_met _ (fun k s hs h => downF_met l f _ _ _ s hs h) _ _ (by show st.met + 1 ≤ 8192; omega) h

theorem outN_len (n : NodeM) (name : List UInt8) (out : List Exp) : (outN n name out).length ≤ out.length + 1 := by
  unfold outN; split <;> simp

/-- The error is one of four, or none. -/
theorem downF_small (l : List UInt8) : ∀ (f : Nat) (at_ : Int) (name : List UInt8) (walk : List Int) (st : DownSt), (downF l f at_ name walk st).1 ≤ 12 := by
  intro f
  induction f with
  | zero => intro _ _ _ _; exact (by decide : (10 : Nat) ≤ 12)
  | succ f ih =>
    intro at_ name walk st
    by_cases h1 : 255 < name.length
    · rw [downF_name h1]; exact (by decide : (10 : Nat) ≤ 12)
    by_cases h2 : walk.contains at_ = true
    · rw [downF_walk h1 h2]; exact (by decide : (12 : Nat) ≤ 12)
    by_cases h3 : 8192 < st.met + 1
    · rw [downF_many h1 h2 h3]; exact (by decide : (11 : Nat) ≤ 12)
    by_cases h4 : at_ < 0
    · rw [downF_neg h1 h2 h3 h4]; exact (by decide : (12 : Nat) ≤ 12)
    cases h5 : readM l at_.toNat with
    | none => rw [downF_none h1 h2 h3 h4 h5]; exact (by decide : (12 : Nat) ≤ 12)
    | some n =>
      by_cases h6 : 4096 < (outN n name st.out).length
      · rw [downF_most h1 h2 h3 h4 h5 h6]; exact (by decide : (11 : Nat) ≤ 12)
      · rw [downF_kids h1 h2 h3 h4 h5 h6]
        have : ∀ (ks : List KidM) (s : DownSt), (eachKid (fun k s => downF l f k.to (name ++ k.edge) (walk ++ [at_]) s) ks s).1 ≤ 12 := by
          intro ks
          induction ks with
          | nil => intro s; exact Nat.zero_le _
          | cons k ks ihk =>
            intro s
            rw [eachKid]
            split
            · exact ih _ _ _ _
            · exact ihk _
        exact this _ _
end Go.Proofs.YtipgcdpmkpjokaaDoor
