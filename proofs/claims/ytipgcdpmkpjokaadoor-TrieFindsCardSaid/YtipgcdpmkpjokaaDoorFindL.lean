/- What all exports tell, and what is said of a name: plain laws. No program in sight. -/
import Derived.Test.YtipgcdpmkpjokaaDoorFindM
namespace Go.Proofs.YtipgcdpmkpjokaaDoor
set_option linter.unusedSimpArgs false
set_option linter.unusedVariables false

/-- What a list of exports says of a name. -/
def sayL (L : List Exp) (name : List UInt8) : Exp × Bool × Nat :=
  match L.find? (fun x => x.name == name) with
  | some x => (x, true, 0)
  | none => (Exp.zero, false, 0)

/-- The exports L are what is told from a place on, under a name. -/
structure Tells (l : List UInt8) (at_ : Int) (name : List UInt8) (walk : List Int) (L : List Exp) : Prop where
  pre : ∀ x ∈ L, name <+: x.name
  says : ∀ rest f, rest.length < f → findF l (name ++ rest) f at_ rest walk = sayL L (name ++ rest)

theorem find_none_pre {L : List Exp} {name full : List UInt8} (h : ∀ x ∈ L, name <+: x.name) (hn : ¬ name <+: full) : L.find? (fun x => x.name == full) = none := by
  rw [List.find?_eq_none]
  intro x hx e
  have e : x.name = full := by simpa using e
  exact hn (e ▸ h x hx)

theorem pre_append {name e full : List UInt8} : name ++ e <+: name ++ full ↔ e <+: full := List.prefix_append_right_inj name

/-- The children, all told. -/
theorem eachKid_tells (l : List UInt8) (name : List UInt8) (walk : List Int) (go : KidM → DownSt → Nat × DownSt) : ∀ (ks : List KidM) (s s' : DownSt),
    (∀ k ∈ ks, k.edge ≠ []) → HeadsApart ks → (∀ k ∈ ks, ∀ s s', go k s = (0, s') → ∃ L, s'.out = s.out ++ L ∧ Tells l k.to (name ++ k.edge) walk L) → eachKid go ks s = (0, s') →
    ∃ L, s'.out = s.out ++ L ∧ (∀ x ∈ L, ∃ k ∈ ks, name ++ k.edge <+: x.name) ∧ ∀ rest f, rest.length ≤ f → rest ≠ [] →
      match ks.find? (fun k => k.edge.isPrefixOf rest) with
      | none => sayL L (name ++ rest) = (Exp.zero, false, 0)
      | some k => findF l (name ++ rest) f k.to (rest.drop k.edge.length) walk = sayL L (name ++ rest)
  | [], s, s', _, _, _, h => by
    cases h
    exact ⟨[], by simp, by simp, fun _ _ _ _ => rfl⟩
  | k :: ks, s, s', hne, hap, hgo, h => by
    rw [eachKid] at h
    by_cases h1 : (go k s).1 ≠ 0
    · rw [if_pos h1] at h
      rw [h] at h1
      exact absurd rfl h1
    · rw [if_neg h1] at h
      obtain ⟨L1, hL1, ht⟩ := hgo k (by simp) s (go k s).2 (by
        have : (go k s).1 = 0 := by omega
        rw [← this])
      obtain ⟨L2, hL2, hp2, hs2⟩ := eachKid_tells l name walk go ks (go k s).2 s' (fun x hx => hne x (by simp [hx])) (List.pairwise_cons.1 hap).2 (fun x hx => hgo x (by simp [hx])) h
      refine ⟨L1 ++ L2, by rw [hL2, hL1, List.append_assoc], fun x hx => ?_, fun rest f hf hr => ?_⟩
      · rcases List.mem_append.1 hx with h' | h'
        · exact ⟨k, by simp, ht.pre x h'⟩
        · obtain ⟨k2, hk2, hx2⟩ := hp2 x h'
          exact ⟨k2, by simp [hk2], hx2⟩
      · rw [List.find?_cons]
        cases hk : k.edge.isPrefixOf rest with
        | true =>
          dsimp only
          have hpre : k.edge <+: rest := List.isPrefixOf_iff_prefix.1 hk
          obtain ⟨t, rfl⟩ := hpre
          have hlen : 0 < k.edge.length := List.length_pos_iff.2 (hne k (by simp))
          rw [List.drop_left]
          have := ht.says t f (by rw [List.length_append] at hf; omega)
          rw [List.append_assoc] at this
          rw [this]
          unfold sayL
          rw [List.find?_append]
          have hn2 : L2.find? (fun x => x.name == name ++ (k.edge ++ t)) = none := by
            rw [List.find?_eq_none]
            intro x hx e
            have e : x.name = name ++ (k.edge ++ t) := by simpa using e
            obtain ⟨k2, hk2, hx2⟩ := hp2 x hx
            rw [e] at hx2
            exact (List.pairwise_cons.1 hap).1 k2 hk2 (heads_apart (p := name) (n := name ++ (k.edge ++ t)) ⟨t, by simp⟩ hx2 (hne k (by simp)) (hne k2 (by simp [hk2])))
          rw [hn2, Option.or_none]
        | false =>
          dsimp only
          have hn1 : L1.find? (fun x => x.name == name ++ rest) = none := by
            refine find_none_pre ht.pre (fun hp => ?_)
            have := List.isPrefixOf_iff_prefix.2 (pre_append.1 hp)
            rw [hk] at this; cases this
          have := hs2 rest f hf hr
          have he : sayL (L1 ++ L2) (name ++ rest) = sayL L2 (name ++ rest) := by
            unfold sayL
            rw [List.find?_append, hn1, Option.none_or]
          rw [he]
          exact this

/-- Where all is told, a name is said as it is told. -/
theorem downF_tells (l : List UInt8) : ∀ (f : Nat) (at_ : Int) (name : List UInt8) (walk : List Int) (st st' : DownSt), downF l f at_ name walk st = (0, st') → ∃ L, st'.out = st.out ++ L ∧ Tells l at_ name walk L
  | 0, _, _, _, _, _, h => by cases h
  | f + 1, at_, name, walk, st, st', h => by
    by_cases h1 : 255 < name.length
    · rw [downF_name h1] at h; cases h
    by_cases h2 : walk.contains at_ = true
    · rw [downF_walk h1 h2] at h; cases h
    by_cases h3 : 8192 < st.met + 1
    · rw [downF_many h1 h2 h3] at h; cases h
    by_cases h4 : at_ < 0
    · rw [downF_neg h1 h2 h3 h4] at h; cases h
    cases h5 : readM l at_.toNat with
    | none => rw [downF_none h1 h2 h3 h4 h5] at h; cases h
    | some n =>
      by_cases h6 : 4096 < (outN n name st.out).length
      · rw [downF_most h1 h2 h3 h4 h5 h6] at h; cases h
      · rw [downF_kids h1 h2 h3 h4 h5 h6] at h
        have hk := readM_kids h5
        have hlost : ¬ (at_ < 0 ∨ walk.contains at_ = true) := fun h => h.elim h4 h2
        obtain ⟨L, hL, hp, hs⟩ := eachKid_tells l name (walk ++ [at_]) _ n.kids ⟨st.met + 1, outN n name st.out⟩ st' (fun k hk' => (hk.1 k hk').1) hk.2 (fun k _ s s' hs => downF_tells l f k.to (name ++ k.edge) (walk ++ [at_]) s s' hs) h
        obtain ⟨O, hO, hOn⟩ : ∃ O, outN n name st.out = st.out ++ O ∧ O = if n.ends then [{ n.says with name := name }] else [] := ⟨_, by unfold outN; split <;> simp, rfl⟩
        refine ⟨O ++ L, by rw [hL]; show outN n name st.out ++ L = _; rw [hO, List.append_assoc], fun x hx => ?_, fun rest g hg => ?_⟩
        · rcases List.mem_append.1 hx with h' | h'
          · rw [hOn] at h'
            split at h'
            · simp at h'; rw [h']; exact List.prefix_rfl
            · cases h'
          · obtain ⟨k, _, r, hr⟩ := hp x h'
            exact ⟨k.edge ++ r, by rw [← List.append_assoc]; exact hr⟩
        · obtain ⟨g, rfl⟩ : ∃ j, g = j + 1 := ⟨g - 1, by omega⟩
          by_cases hr : rest = []
          · subst hr
            rw [findF_here hlost h5 rfl, List.append_nil]
            have hnL : L.find? (fun x => x.name == name) = none := by
              rw [List.find?_eq_none]
              intro x hx e
              have e : x.name = name := by simpa using e
              obtain ⟨k, hk', hx2⟩ := hp x hx
              have h7 := hx2.length_le
              have h8 := List.length_pos_iff.2 (hk.1 k hk').1
              rw [e, List.length_append] at h7
              omega
            unfold sayL
            rw [List.find?_append, hnL, Option.or_none, hOn]
            cases n.ends <;> simp
          · have hnO : O.find? (fun x => x.name == name ++ rest) = none := by
              rw [hOn]
              split
              · have h9 := List.length_pos_iff.2 hr
                simp
                omega
              · rfl
            have he : sayL (O ++ L) (name ++ rest) = sayL L (name ++ rest) := by
              unfold sayL
              rw [List.find?_append, hnO, Option.none_or]
            rw [he]
            have := hs rest g (by omega) hr
            cases hf : n.kids.find? (fun k => k.edge.isPrefixOf rest) with
            | none =>
              rw [hf] at this
              rw [findF_out hlost h5 hr hf]
              exact this.symm
            | some k =>
              rw [hf] at this
              rw [findF_on hlost h5 hr hf]
              exact this

/-- A name is said as all tell it. -/
theorem findT_all {l name : List UInt8} (h : (allT l).1 = 0) (hn : name.length ≤ 255) : findT l name = sayL (allT l).2 name := by
  unfold findT
  rw [if_neg (by omega)]
  by_cases hl : l = []
  · subst hl
    rfl
  · rw [if_neg hl]
    have ha : allT l = if (downF l 257 0 [] [] ⟨0, []⟩).1 ≠ 0 then ((downF l 257 0 [] [] ⟨0, []⟩).1, []) else (0, (downF l 257 0 [] [] ⟨0, []⟩).2.out) := by
      unfold allT
      rw [if_neg hl]
    by_cases hz : (downF l 257 0 [] [] ⟨0, []⟩).1 = 0
    · rw [if_neg (by omega)] at ha
      rw [ha]
      obtain ⟨L, hL, ht⟩ := downF_tells l 257 0 [] [] ⟨0, []⟩ (downF l 257 0 [] [] ⟨0, []⟩).2 (Prod.ext hz rfl)
      rw [hL]
      exact ht.says name (name.length + 1) (by omega)
    · rw [if_pos hz] at ha
      rw [ha] at h
      exact absurd h hz
end Go.Proofs.YtipgcdpmkpjokaaDoor
