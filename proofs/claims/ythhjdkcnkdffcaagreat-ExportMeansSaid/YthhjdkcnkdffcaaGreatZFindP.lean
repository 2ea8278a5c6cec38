/- All exports by rising names, and what is said of a name: plain laws. No program in sight. -/
import Derived.Test.YthhjdkcnkdffcaaGreatZLebM
import Derived.Test.YthhjdkcnkdffcaaGreatZAllE
import Derived.Test.YthhjdkcnkdffcaaGreatZMkS
namespace Go.Proofs.YthhjdkcnkdffcaaGreat
set_option linter.unusedSimpArgs false
set_option linter.unusedVariables false
open Go.Sort
theorem sayL_of {L : List Exp} (h : NamesApart L) {x : Exp} (hx : x ∈ L) : sayL L x.name = (x, true, 0) := by
  unfold sayL
  cases hf : L.find? (fun y => y.name == x.name) with
  | none =>
    have := List.find?_eq_none.1 hf x hx
    simp at this
  | some y =>
    have h1 := List.mem_of_find?_eq_some hf
    have h2 : y.name = x.name := by simpa using List.find?_some hf
    rw [apart_of_mem h h1 hx h2]
theorem sayL_is (L : List Exp) (name : List UInt8) : (sayL L name).2 = (L.any (fun x => x.name == name), 0) := by
  unfold sayL
  cases hf : L.find? (fun y => y.name == name) with
  | none =>
    have h1 : L.any (fun x => x.name == name) = false := by
      rw [List.any_eq_false]
      exact List.find?_eq_none.1 hf
    rw [h1]
  | some y =>
    have h1 : L.any (fun x => x.name == name) = true := List.any_eq_true.2 ⟨y, List.mem_of_find?_eq_some hf, by have h3 := List.find?_some hf; exact h3⟩
    rw [h1]
theorem any_perm {L M : List Exp} (h : L.Perm M) (p : Exp → Bool) : L.any p = M.any p := by
  rw [Bool.eq_iff_iff, List.any_eq_true, List.any_eq_true]
  exact ⟨fun ⟨x, hx, hp⟩ => ⟨x, h.mem_iff.1 hx, hp⟩, fun ⟨x, hx, hp⟩ => ⟨x, h.mem_iff.2 hx, hp⟩⟩
/-- Wherever all is told, each is found as it is told. -/
theorem finds_at {l : List UInt8} (h : (allS l).1 = 0) {x : Exp} (hx : x ∈ (allS l).2) (hn : x.name.length ≤ 255) : findT l x.name = (x, true, 0) := by
  rw [findT_all h hn]
  exact sayL_of (allT_apart l) ((byNames_perm _).mem_iff.1 hx)
theorem finds_is {l name : List UInt8} (h : (allS l).1 = 0) (hn : name.length ≤ 255) : (findT l name).2 = ((allS l).2.any (fun x => x.name == name), 0) := by
  rw [findT_all h hn, sayL_is]
  show _ = ((byNames (allT l).2).any _, 0)
  rw [any_perm (byNames_perm (allT l).2)]
/-- By rising names. -/
theorem finds_lt {l : List UInt8} {j : Nat} {x y : Exp} (hx : (allS l).2[j]? = some x) (hy : (allS l).2[j + 1]? = some y) : ltStr x.name y.name = true := by
  have hs := byNames_sorted (allT l).2
  have hap : NamesApart (byNames (allT l).2) := (byNames_perm (allT l).2).pairwise_iff (fun {a b} h e => h e.symm) |>.2 (allT_apart l)
  obtain ⟨h1, rfl⟩ := List.getElem?_eq_some_iff.1 hx
  obtain ⟨h2, rfl⟩ := List.getElem?_eq_some_iff.1 hy
  have a1 := List.pairwise_iff_getElem.1 hs j (j + 1) h1 h2 (by omega)
  have a2 := List.pairwise_iff_getElem.1 hap j (j + 1) h1 h2 (by omega)
  unfold nameLe at a1
  cases hlt : ltStr ((allS l).2[j]).name ((allS l).2[j + 1]).name with
  | true => rfl
  | false =>
    have e : ltStr ((byNames (allT l).2)[j]).name ((byNames (allT l).2)[j + 1]).name = false := hlt
    simp only [Bool.not_eq_true'] at a1
    exact absurd (ltStr_anti e a1) a2
/-- A name that is told is short. -/
theorem downF_short (l : List UInt8) : ∀ (f : Nat) (at_ : Int) (name : List UInt8) (walk : List Int) (st : DownSt), (∀ x ∈ st.out, x.name.length ≤ 255) → ∀ x ∈ (downF l f at_ name walk st).2.out, x.name.length ≤ 255
  | 0, _, _, _, _, h => h
  | f + 1, at_, name, walk, st, h => by
    by_cases h1 : 255 < name.length
    · rw [downF_name h1]; exact h
    by_cases h2 : walk.contains at_ = true
    · rw [downF_walk h1 h2]; exact h
    by_cases h3 : 8192 < st.met + 1
    · rw [downF_many h1 h2 h3]; exact h
    by_cases h4 : at_ < 0
    · rw [downF_neg h1 h2 h3 h4]; exact h
    cases h5 : readM l at_.toNat with
    | none => rw [downF_none h1 h2 h3 h4 h5]; exact h
    | some n =>
      have ho : ∀ x ∈ outN n name st.out, x.name.length ≤ 255 := by
        unfold outN
        split
        · intro x hx
          rcases List.mem_append.1 hx with h' | h'
          · exact h x h'
          · simp at h'; rw [h']; show name.length ≤ 255; omega
        · exact h
      by_cases h6 : 4096 < (outN n name st.out).length
      · rw [downF_most h1 h2 h3 h4 h5 h6]; exact ho
      · rw [downF_kids h1 h2 h3 h4 h5 h6]
        have : ∀ (ks : List KidM) (s : DownSt), (∀ x ∈ s.out, x.name.length ≤ 255) → ∀ x ∈ (eachKid (fun k s => downF l f k.to (name ++ k.edge) (walk ++ [at_]) s) ks s).2.out, x.name.length ≤ 255 := by
          intro ks
          induction ks with
          | nil => intro s hs; exact hs
          | cons k ks ih =>
            intro s hs
            rw [eachKid]
            split
            · exact downF_short l f _ _ _ s hs
            · exact ih _ (downF_short l f _ _ _ s hs)
        exact this _ _ ho
theorem finds_short {l : List UInt8} {x : Exp} (hx : x ∈ (allS l).2) : x.name.length ≤ 255 := by
  have h := (byNames_perm (allT l).2).mem_iff.1 hx
  unfold allT at h
  split at h
  · cases h
  · split at h
    · cases h
    · exact downF_short l 257 0 [] [] ⟨0, []⟩ (by simp) x h
theorem finds_none {l : List UInt8} (h : (allS l).1 ≠ 0) : (allS l).2 = [] := by
  have h' : (allT l).1 ≠ 0 := h
  show byNames (allT l).2 = []
  unfold allT at h' ⊢
  split at h'
  · exact absurd rfl h'
  · rename_i hl
    rw [if_neg hl]
    split at h'
    · rename_i hz
      rw [if_pos hz]
      exact byNames_nil
    · exact absurd rfl h'
theorem finds_few (l : List UInt8) : (allS l).2.length ≤ 4096 := by
  show (byNames (allT l).2).length ≤ 4096
  rw [(byNames_perm (allT l).2).length_eq]
  exact allT_few l
end Go.Proofs.YthhjdkcnkdffcaaGreat

namespace Go.Proofs.YthhjdkcnkdffcaaGreat
set_option linter.unusedSimpArgs false
set_option linter.unusedVariables false
/-- There are knots, and places, for any exports that may be. -/
theorem made_of (l : List Exp) (hx : ∀ x ∈ l, x.value < 2 ^ 64 ∧ x.resolver < 2 ^ 64 ∧ x.ordinal < 2 ^ 64) : ∃ (F : Fo) (P : List Nat), l.all mayE = true → apartB l = true → Tied [] (byNames l) F ∧ Fix (allK F) P := by
  by_cases h : l.all mayE = true ∧ apartB l = true
  · have hm := byNames_perm l
    have hs : Srt (byNames l) := byNames_srt ((apartB_iff l).1 h.2)
    have ho : Onto [] (byNames l) := fun y hy => by
      have hyl := hm.mem_iff.1 hy
      have hg := good_of (List.all_eq_true.1 h.1 y hyl) (hx y hyl).1 (hx y hyl).2.1 (hx y hyl).2.2
      exact ⟨List.nil_prefix, hg.name1⟩
    obtain ⟨F, hF⟩ := tied_of hs ho
    obtain ⟨P, hP⟩ := fix_any (allK F)
    exact ⟨F, P, fun _ _ => ⟨hF, hP⟩⟩
  · exact ⟨.nil, [], fun h1 h2 => absurd ⟨h1, h2⟩ h⟩
theorem makeM_bad {l : List Exp} {K : List Knot} {P : List Nat} {b : List UInt8} {e : Int} (h : makeM l K P = (b, e)) (he : e ≠ 0) : b = [] := by
  unfold makeM at h
  split at h
  · cases h; rfl
  · split at h
    · cases h; rfl
    · split at h
      · cases h; rfl
      · split at h
        · cases h; rfl
        · split at h
          · cases h; rfl
          · cases h; exact absurd rfl he
/-- What was made is told: all of it, by rising names. -/
theorem makeM_good {l : List Exp} {F : Fo} {P : List Nat} {b : List UInt8} (hx : ∀ x ∈ l, x.value < 2 ^ 64 ∧ x.resolver < 2 ^ 64 ∧ x.ordinal < 2 ^ 64) (hF : l.all mayE = true → apartB l = true → Tied [] (byNames l) F ∧ Fix (allK F) P) (h : makeM l (allK F) P = (b, 0)) :
    b.length ≤ 1048576 ∧ allS b = (0, byNames l) ∧ NamesApart l ∧ l.length ≤ 4096 ∧ ∀ x ∈ l, x.name.length ≤ 255 := by
  unfold makeM at h
  split at h
  · cases h
  · rename_i h1
    split at h
    · cases h
    · rename_i h2
      have h1' : l.all mayE = true := by simpa using h1
      have hg : ∀ x ∈ l, GoodX x := fun x hl => good_of (List.all_eq_true.1 h1' x hl) (hx x hl).1 (hx x hl).2.1 (hx x hl).2.2
      split at h
      · rename_i h3
        obtain rfl : l = [] := List.eq_nil_of_length_eq_zero h3
        cases h
        refine ⟨by simp, ?_, List.Pairwise.nil, by simp, by simp⟩
        unfold allS allT
        simp [byNames_nil]
      · rename_i h3
        split at h
        · cases h
        · rename_i h4
          split at h
          · cases h
          · rename_i h5
            have h4' : apartB l = true := by simpa using h4
            obtain ⟨hT, hfix⟩ := hF h1' h4'
            have hp := byNames_perm l
            have hne : byNames l ≠ [] := fun e => by
              have := hp.length_eq
              rw [e] at this
              simp at this
              exact h3 this.symm
            have ht := made_told hT (fun y hy => hg y (hp.mem_iff.1 hy)) (by rw [hp.length_eq]; omega) hne (fix_place hfix) (by omega)
            have hb : outB (allK F) P = b := by
              have := congrArg Prod.fst h
              exact this
            rw [hb] at ht h5
            refine ⟨by omega, ?_, (apartB_iff l).1 h4', by omega, fun x hl => (hg x hl).name2⟩
            unfold allS
            rw [ht]
            show (0, byNames (byNames l)) = (0, byNames l)
            rw [← byNames_unique (l := byNames l) ((apart_perm hp).2 ((apartB_iff l).1 h4')) (List.Perm.refl _) (byNames_sorted l)]
theorem makeM_len {l : List Exp} {F : Fo} {P : List Nat} {b : List UInt8} {z : Int} (hx : ∀ x ∈ l, x.value < 2 ^ 64 ∧ x.resolver < 2 ^ 64 ∧ x.ordinal < 2 ^ 64) (hF : l.all mayE = true → apartB l = true → Tied [] (byNames l) F ∧ Fix (allK F) P) (h : makeM l (allK F) P = (b, z)) : b.length ≤ 1048576 := by
  by_cases hz : z = 0
  · subst hz
    exact (makeM_good hx hF h).1
  · rw [makeM_bad h hz]; simp
end Go.Proofs.YthhjdkcnkdffcaaGreat
