/- All that a trie tells has names that differ: plain laws. No program in sight. -/
import Derived.Test.YtipgcdpmkpjokaaDoorTrieM
namespace Go.Proofs.YtipgcdpmkpjokaaDoor
set_option linter.unusedSimpArgs false
set_option linter.unusedVariables false

/-- What was told more: names that begin so, no two alike. -/
structure More (pre : List UInt8 → Prop) (a b : List Exp) : Prop where
  ex : ∃ L, b = a ++ L ∧ (∀ x ∈ L, pre x.name) ∧ L.Pairwise (fun x y => x.name ≠ y.name)

theorem More.refl (pre : List UInt8 → Prop) (a : List Exp) : More pre a a := ⟨[], by simp, by simp, List.Pairwise.nil⟩

theorem heads_apart {p e e' n : List UInt8} (h1 : p ++ e <+: n) (h2 : p ++ e' <+: n) (he : e ≠ []) (he' : e' ≠ []) : e.head? = e'.head? := by
  obtain ⟨r, hr⟩ := h1
  obtain ⟨r', hr'⟩ := h2
  have h : e ++ r = e' ++ r' := by
    have : p ++ (e ++ r) = p ++ (e' ++ r') := by rw [← List.append_assoc, ← List.append_assoc, hr, hr']
    exact List.append_cancel_left this
  cases e with
  | nil => exact absurd rfl he
  | cons x e =>
    cases e' with
    | nil => exact absurd rfl he'
    | cons y e' =>
      simp at h
      simp [h.1]

theorem eachKid_more (name : List UInt8) (go : KidM → DownSt → Nat × DownSt) : ∀ (ks : List KidM) (s : DownSt),
    (∀ k ∈ ks, k.edge ≠ []) → HeadsApart ks → (∀ k ∈ ks, ∀ s, More (fun n => name ++ k.edge <+: n) s.out (go k s).2.out) →
    More (fun n => ∃ k ∈ ks, name ++ k.edge <+: n) s.out (eachKid go ks s).2.out
  | [], s, _, _, _ => More.refl _ _
  | k :: ks, s, hne, hap, hgo => by
    obtain ⟨L, hL, hp, hd⟩ := (hgo k (by simp) s).ex
    rw [eachKid]
    split
    · exact ⟨L, hL, fun x hx => ⟨k, by simp, hp x hx⟩, hd⟩
    · obtain ⟨L2, hL2, hp2, hd2⟩ := (eachKid_more name go ks (go k s).2 (fun x hx => hne x (by simp [hx])) (List.pairwise_cons.1 hap).2 (fun x hx s => hgo x (by simp [hx]) s)).ex
      refine ⟨L ++ L2, by rw [hL2, hL, List.append_assoc], fun x hx => ?_, List.pairwise_append.2 ⟨hd, hd2, fun x hx y hy he => ?_⟩⟩
      · rcases List.mem_append.1 hx with h | h
        · exact ⟨k, by simp, hp x h⟩
        · obtain ⟨k2, hk2, h2⟩ := hp2 x h
          exact ⟨k2, by simp [hk2], h2⟩
      · obtain ⟨k2, hk2, h2⟩ := hp2 y hy
        have h1 := hp x hx
        rw [he] at h1
        exact (List.pairwise_cons.1 hap).1 k2 hk2 (heads_apart h1 h2 (hne k (by simp)) (hne k2 (by simp [hk2])))

theorem downF_more (l : List UInt8) : ∀ (f : Nat) (at_ : Int) (name : List UInt8) (walk : List Int) (st : DownSt), More (fun n => name <+: n) st.out (downF l f at_ name walk st).2.out
  | 0, _, _, _, _ => More.refl _ _
  | f + 1, at_, name, walk, st => by
    rw [downF]
    split
    · exact More.refl _ _
    · split
      · exact More.refl _ _
      · split
        · exact More.refl _ _
        · split
          · exact More.refl _ _
          · cases hr : readM l at_.toNat with
            | none => exact More.refl _ _
            | some n =>
              dsimp only
              have hk := readM_kids hr
              have own : More (fun m => m = name) st.out (if n.ends then st.out ++ [{ n.says with name := name }] else st.out) := by
                split
                · exact ⟨[{ n.says with name := name }], rfl, by simp, by simp⟩
                · exact ⟨[], by simp, by simp, List.Pairwise.nil⟩
              obtain ⟨L, hL, hp, hd⟩ := own.ex
              by_cases h5 : 4096 < (if n.ends then st.out ++ [{ n.says with name := name }] else st.out).length
              · rw [if_pos h5]
                exact ⟨L, hL, fun x hx => by rw [hp x hx]; exact List.prefix_rfl, hd⟩
              · rw [if_neg h5]
                obtain ⟨L2, hL2, hp2, hd2⟩ := (eachKid_more name (fun k s => downF l f k.to (name ++ k.edge) (walk ++ [at_]) s) n.kids ⟨st.met + 1, if n.ends then st.out ++ [{ n.says with name := name }] else st.out⟩
                  (fun k hk' => (hk.1 k hk').1) hk.2 (fun k _ s => downF_more l f k.to (name ++ k.edge) (walk ++ [at_]) s)).ex
                refine ⟨L ++ L2, by rw [hL2, hL, List.append_assoc], fun x hx => ?_, List.pairwise_append.2 ⟨hd, hd2, fun x hx y hy he => ?_⟩⟩
                · rcases List.mem_append.1 hx with h | h
                  · rw [hp x h]; exact List.prefix_rfl
                  · obtain ⟨k, hk', r, hr'⟩ := hp2 x h
                    exact ⟨k.edge ++ r, by rw [← List.append_assoc]; exact hr'⟩
                · obtain ⟨k, hk', h2⟩ := hp2 y hy
                  rw [← he, hp x hx] at h2
                  have := h2.length_le
                  rw [List.length_append] at this
                  have := List.length_pos_iff.2 (hk.1 k hk').1
                  omega

/-- No two exports that are told have one name. -/
theorem allT_apart (l : List UInt8) : (allT l).2.Pairwise (fun x y => x.name ≠ y.name) := by
  unfold allT
  split
  · exact List.Pairwise.nil
  · split
    · exact List.Pairwise.nil
    · obtain ⟨L, hL, hp, hd⟩ := (downF_more l 257 0 [] [] ⟨0, []⟩).ex
      rw [hL]
      simpa using hd

/-- They are few. -/
theorem eachKid_few (go : KidM → DownSt → Nat × DownSt) (hgo : ∀ k s, s.out.length ≤ 4096 → (go k s).1 = 0 → (go k s).2.out.length ≤ 4096) : ∀ (ks : List KidM) (s : DownSt), s.out.length ≤ 4096 → (eachKid go ks s).1 = 0 → (eachKid go ks s).2.out.length ≤ 4096
  | [], s, hs, _ => hs
  | k :: ks, s, hs, h => by
    rw [eachKid] at h ⊢
    split at h
    · rename_i h1; exact absurd h h1
    · rename_i h1
      rw [if_neg h1]
      exact eachKid_few go hgo ks _ (hgo k s hs (by omega)) h

theorem downF_few (l : List UInt8) : ∀ (f : Nat) (at_ : Int) (name : List UInt8) (walk : List Int) (st : DownSt), st.out.length ≤ 4096 → (downF l f at_ name walk st).1 = 0 → (downF l f at_ name walk st).2.out.length ≤ 4096
  | 0, _, _, _, st, hs, h => hs
  | f + 1, at_, name, walk, st, hs, h => by
    rw [downF] at h ⊢
    split at h
    · cases h
    · rename_i h1
      rw [if_neg h1]
      split at h
      · cases h
      · rename_i h2
        rw [if_neg h2]
        split at h
        · cases h
        · rename_i h3
          rw [if_neg h3]
          split at h
          · cases h
          · rename_i h4
            rw [if_neg h4]
            cases hr : readM l at_.toNat with
            | none => rw [hr] at h; cases h
            | some n =>
              rw [hr] at h
              dsimp only at h ⊢
              by_cases h5 : 4096 < (if n.ends then st.out ++ [{ n.says with name := name }] else st.out).length
              · rw [if_pos h5] at h; cases h
              · rw [if_neg h5] at h ⊢
                exact eachKid_few _ (fun k s hs h => downF_few l f _ _ _ s hs h) _ _ (by show (if n.ends then st.out ++ [{ n.says with name := name }] else st.out).length ≤ 4096; omega) h

theorem allT_few (l : List UInt8) : (allT l).2.length ≤ 4096 := by
  unfold allT
  split
  · simp
  · split
    · simp
    · rename_i h
      exact downF_few l 257 0 [] [] ⟨0, []⟩ (by simp) (by omega)

end Go.Proofs.YtipgcdpmkpjokaaDoor
