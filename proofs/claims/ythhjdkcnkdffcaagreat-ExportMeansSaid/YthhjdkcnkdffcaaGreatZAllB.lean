/- Package trie: all exports from a place on. -/
import Derived.Test.YthhjdkcnkdffcaaGreatZRead
import Derived.Test.YthhjdkcnkdffcaaGreatZAllA
import Derived.Deep.DeepCutAuto
namespace Go.Proofs.YthhjdkcnkdffcaaGreat
set_option linter.unusedSimpArgs false
set_option linter.unusedVariables false
open Go.RowKit
theorem placeM_lt (n all : Nat) (h : 0 < all) : placeM n all < all := by unfold placeM; split <;> omega
theorem Tryz.infoExport : (Tryz.prog.info? 25).map (fun i => (i.zero, i.size, i.bytes)) = some (some (.agg #[.string ⟨#[]⟩, .int .i64 0, .bool false, .int .u64 0, .int .u64 0, .int .u64 0, .string ⟨#[]⟩]), 7, 72) := by kernel_rfl
theorem Tryz.infoInt : (Tryz.prog.info? 3).map (fun i => (i.zero, i.size, i.bytes)) = some (some (.int .i64 0), 1, 8) := by kernel_rfl
theorem kidsR_to {all : Nat} (h0 : 0 < all) : ∀ (n : Nat) (b : List UInt8) (acc ks : List KidM), kidsR all n b acc = some ks → (∀ x ∈ acc, x.to < all) → ∀ x ∈ ks, x.to < all
  | 0, b, acc, ks, h, ha => by cases h; exact ha
  | n + 1, b, acc, ks, h, ha => by
    rw [kidsR] at h
    cases ht : textR b with
    | none => rw [ht] at h; cases h
    | some p =>
      obtain ⟨e, k⟩ := p
      rw [ht] at h
      dsimp only at h
      cases hu : ulebM (b.drop k) with
      | none => rw [hu] at h; cases h
      | some q =>
        obtain ⟨tv, k2⟩ := q
        rw [hu] at h
        dsimp only at h
        split at h
        · cases h
        · split at h
          · cases h
          · refine kidsR_to h0 n _ _ _ h (fun x hx => ?_)
            rcases List.mem_append.1 hx with h1 | h1
            · exact ha x h1
            · simp at h1; subst h1; exact placeM_lt tv all h0
theorem readM_to {l : List UInt8} {at_ : Nat} {n : NodeM} (h : readM l at_ = some n) (h0 : 0 < l.length) : ∀ x ∈ n.kids, x.to < l.length := by
  unfold readM at h
  cases hu : ulebM (l.drop at_) with
  | none => rw [hu] at h; cases h
  | some p =>
    obtain ⟨size, k⟩ := p
    rw [hu] at h
    dsimp only at h
    split at h
    · cases h
    · split at h
      · cases h
      · split at h
        · cases h
        · split at h
          · cases h
          · rename_i hk
            cases h
            exact kidsR_to h0 _ _ _ _ hk (by simp)
theorem mkS_append (a b : List UInt8) : mkS a ++ mkS b = mkS (a ++ b) := by
  apply ByteArray.ext
  simp [mkS, ByteArray.data_append]
theorem ownsRow_few {w : World} {base : Nat} {e : TypeId} {size : Nat} {v : Value} {n : Nat} {xs : List Value} (h : w.ownsRow base e size v n xs) : n ≤ 9223372036854775807 := by
  rcases h.2 with ⟨_, h0⟩ | ⟨g3, cap3, cur, h1, _, _, h4, h5, _⟩
  · omega
  · unfold maxLen at h5; omega
theorem cu_good {s : Cu} (h : s.bad = false) : s = ⟨s.at_, false⟩ := by obtain ⟨a, b⟩ := s; simp at h; rw [h]
end Go.Proofs.YthhjdkcnkdffcaaGreat
