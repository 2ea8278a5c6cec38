/- Tries that go round: plain laws. No program in sight. -/
import Derived.Test.YtipgcdpmkpjokaaDoorZLebM
import Derived.Test.YtipgcdpmkpjokaaDoorZSortE
import Derived.Test.YtipgcdpmkpjokaaDoorZAllE
namespace Go.Proofs.YtipgcdpmkpjokaaDoor
set_option linter.unusedSimpArgs false
set_option linter.unusedVariables false

def loB (n : Nat) : UInt8 := UInt8.ofNat (n % 128 + 128)
def hiB (n : Nat) : UInt8 := UInt8.ofNat (n / 128)
/-- A node of one child. -/
def partB (e : List UInt8) (n : Nat) : List UInt8 := [0, 1] ++ e ++ [0, loB n, hiB n]
theorem partB_length (e : List UInt8) (n : Nat) : (partB e n).length = e.length + 5 := by simp [partB]

theorem lo_nat (n : Nat) : (loB n).toNat = n % 128 + 128 := by unfold loB; simp; omega
theorem hi_nat {n : Nat} (h : n < 16384) : (hiB n).toNat = n / 128 := by unfold hiB; simp; omega

theorem nul_app' (l r : List UInt8) (h : ∀ x ∈ l, x ≠ 0) : nul (l ++ 0 :: r) = l.length := by
  induction l with
  | nil => rw [List.nil_append, nul_cons, if_pos rfl]; rfl
  | cons x l ih =>
    rw [List.cons_append, nul_cons, if_neg (h x (by simp)), ih (fun y hy => h y (by simp [hy]))]; rfl

theorem uleb_zero (r : List UInt8) : ulebM (0 :: r) = some (0, 1) := by
  unfold ulebM
  rw [ulebF]; simp [grp]

theorem uleb_two {n : Nat} (h : n < 16384) (r : List UInt8) : ulebM (loB n :: hiB n :: r) = some (n, 2) := by
  have h1 := lo_nat n
  have h2 := hi_nat h
  unfold ulebM
  rw [ulebF, if_neg (by omega), if_neg (by rw [h1]; omega), ulebF, if_neg (by omega), if_pos (by rw [h2]; omega)]
  have e1 : grp (loB n) = n % 128 := by unfold grp; rw [h1]; omega
  have e2 : grp (hiB n) = n / 128 := by unfold grp; rw [h2]; omega
  rw [e1, e2]
  congr 2
  simp; omega

theorem text_edge {e : List UInt8} (he : ∀ x ∈ e, x ≠ 0) (hl : e.length ≤ 255) (r : List UInt8) : textR (e ++ 0 :: r) = some (e, e.length + 1) := by
  unfold textR
  rw [nul_app' e r he, if_pos (by simp; omega)]
  simp

/-- The node of a part. -/
theorem read_part {l pre post e : List UInt8} {n : Nat} (hl : l = pre ++ partB e n ++ post) (he : ∀ x ∈ e, x ≠ 0) (hne : e ≠ []) (h255 : e.length ≤ 255) (hn : n < 16384) : readM l pre.length = some ⟨false, Exp.zero, [⟨e, placeM n l.length⟩]⟩ := by
  have hd : l.drop pre.length = 0 :: 1 :: (e ++ 0 :: loB n :: hiB n :: post) := by
    rw [hl, List.append_assoc, List.drop_left]
    simp [partB]
  have hlen : l.length = pre.length + (e.length + 5) + post.length := by rw [hl]; simp [partB_length]; omega
  have h1 : ulebM (l.drop pre.length) = some (0, 1) := by rw [hd]; exact uleb_zero _
  have hg : l[pre.length + 1 + 0]? = some 1 := by
    have := congrArg (fun z => z[1]?) hd
    simpa [List.getElem?_drop] using this
  have hr : l.drop (pre.length + 1 + 0 + 1) = e ++ 0 :: loB n :: hiB n :: post := by
    have := congrArg (List.drop 2) hd
    rw [List.drop_drop] at this
    simpa using this
  rw [readM_head h1 (by omega)]
  unfold headM
  rw [if_pos rfl]
  dsimp only
  rw [hg]
  dsimp only
  rw [hr]
  have hk : kidsR l.length (1 : UInt8).toNat (e ++ 0 :: loB n :: hiB n :: post) [] = some [⟨e, placeM n l.length⟩] := by
    rw [show (1 : UInt8).toNat = 0 + 1 from rfl, kidsR, text_edge he h255]
    dsimp only
    rw [show (e ++ 0 :: loB n :: hiB n :: post).drop (e.length + 1) = loB n :: hiB n :: post by
      rw [show e ++ 0 :: loB n :: hiB n :: post = (e ++ [0]) ++ (loB n :: hiB n :: post) by simp]
      rw [List.drop_left' (by simp)]]
    rw [uleb_two hn]
    dsimp only
    rw [if_neg hne, if_neg (by simp)]
    rfl
  rw [hk]
  rfl

/-- Two nodes, each the other one's child, or its own, or of no place. -/
theorem round_err {e : List UInt8} {tv : Nat} (he : ∀ x ∈ e, x ≠ 0) (hne : e ≠ []) (h200 : e.length ≤ 200) (hto : tv = 0 ∨ tv = e.length + 5 ∨ tv = 2 * (e.length + 5)) : (allS (partB e (e.length + 5) ++ partB e tv)).1 ≠ 0 := by
  obtain ⟨l, hl⟩ : ∃ l, l = partB e (e.length + 5) ++ partB e tv := ⟨_, rfl⟩
  rw [← hl]
  have hlen : l.length = 2 * (e.length + 5) := by rw [hl, List.length_append, partB_length, partB_length]; omega
  have h0 : readM l 0 = some ⟨false, Exp.zero, [⟨e, placeM (e.length + 5) l.length⟩]⟩ := read_part (pre := []) (post := partB e tv) (by rw [hl]; rfl) he hne (by omega) (by omega)
  have h1 : readM l (e.length + 5) = some ⟨false, Exp.zero, [⟨e, placeM tv l.length⟩]⟩ := by
    have := read_part (l := l) (pre := partB e (e.length + 5)) (post := []) (n := tv) (by rw [hl, List.append_nil]) he hne (by omega) (by omega)
    rwa [partB_length] at this
  have hp0 : placeM (e.length + 5) l.length = ((e.length + 5 : Nat) : Int) := by unfold placeM; rw [if_neg (by omega)]
  rw [hp0] at h0
  have hnil : l ≠ [] := by intro h; rw [h] at hlen; simp at hlen
  have key : (downF l 257 0 [] [] ⟨0, []⟩).1 ≠ 0 := by
    rw [downF_kids (n := ⟨false, Exp.zero, [⟨e, ((e.length + 5 : Nat) : Int)⟩]⟩) (by simp) (by simp) (by simp) (by omega) h0 (by simp [outN])]
    have inner : (downF l 256 ((e.length + 5 : Nat) : Int) ([] ++ e) ([] ++ [0]) ⟨0 + 1, outN ⟨false, Exp.zero, [⟨e, ((e.length + 5 : Nat) : Int)⟩]⟩ [] []⟩).1 ≠ 0 := by
      rw [downF_kids (n := ⟨false, Exp.zero, [⟨e, placeM tv l.length⟩]⟩) (by simp; omega) (by simp; omega) (by simp) (by omega) (by rw [Int.toNat_natCast]; exact h1) (by simp [outN])]
      have last : ∀ st : DownSt, st.met = 2 → (downF l 255 (placeM tv l.length) (([] ++ e) ++ e) (([] ++ [0]) ++ [((e.length + 5 : Nat) : Int)]) st).1 ≠ 0 := by
        intro st hst
        by_cases hn : 255 < (([] ++ e) ++ e).length
        · rw [downF_name hn]; simp
        by_cases hw : ((([] : List Int) ++ [0]) ++ [((e.length + 5 : Nat) : Int)]).contains (placeM tv l.length) = true
        · rw [downF_walk hn hw]; simp
        by_cases hm : 8192 < st.met + 1
        · rw [downF_many hn hw hm]; simp
        by_cases hneg : placeM tv l.length < 0
        · rw [downF_neg hn hw hm hneg]; simp
        exfalso
        apply hw
        unfold placeM at hneg ⊢
        rcases hto with rfl | rfl | rfl
        · rw [if_neg (by omega)]; simp
        · rw [if_neg (by omega)]; simp
        · rw [if_pos (by omega)] at hneg; omega
      rw [eachKid]
      rw [if_pos (last _ rfl)]
      exact last _ rfl
    rw [eachKid, if_pos inner]
    exact inner
  unfold allS allT
  rw [if_neg hnil, if_pos key]
  exact key
end Go.Proofs.YtipgcdpmkpjokaaDoor
