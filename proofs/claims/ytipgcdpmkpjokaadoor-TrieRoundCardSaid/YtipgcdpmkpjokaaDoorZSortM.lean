/- Exports by rising names: plain laws. No program in sight. -/
import Derived.Test.YtipgcdpmkpjokaaDoorZLebM
import Derived.Shelf.SlSortCmp.NoneTotal
namespace Go.Proofs.YtipgcdpmkpjokaaDoor
set_option linter.unusedSimpArgs false
set_option linter.unusedVariables false
open Go.Sort

instance : Inhabited Exp := ⟨Exp.zero⟩

/-- One name stands ahead of another one, or is the same. -/
def nameLe (a b : Exp) : Bool := !ltStr b.name a.name
def cmpS (a b : List UInt8) : Int := if ltStr a b then -1 else if ltStr b a then 1 else 0
def cmpE (a b : Exp) : Int := cmpS a.name b.name

theorem ltE (x y : Exp) : Go.Proofs.ltOf cmpE x y = ltStr x.name y.name := by
  unfold Go.Proofs.ltOf cmpE cmpS
  cases h1 : ltStr x.name y.name
  · cases h2 : ltStr y.name x.name <;> simp
  · simp

theorem swoE : SWO (Go.Proofs.ltOf cmpE) where
  irrefl x := by rw [ltE]; exact swo_ltStr.irrefl _
  trans x y z h1 h2 := by rw [ltE] at *; exact swo_ltStr.trans _ _ _ h1 h2
  ntrans x y z h1 h2 := by rw [ltE] at *; exact swo_ltStr.ntrans _ _ _ h1 h2

theorem ltStr_anti {x y : List UInt8} (h1 : ltStr x y = false) (h2 : ltStr y x = false) : x = y := by
  simp only [ltStr, decide_eq_false_iff_not, List.not_lt] at h1 h2
  exact List.le_antisymm h2 h1

/-- Exports by rising names. -/
def byNames (l : List Exp) : List Exp := l.mergeSort nameLe

theorem nameLe_trans (a b c : Exp) (h1 : nameLe a b = true) (h2 : nameLe b c = true) : nameLe a c = true := by
  unfold nameLe at *
  simp only [Bool.not_eq_true'] at *
  exact swo_ltStr.ntrans _ _ _ h2 h1

theorem ltStr_asymm {x y : List UInt8} (h : ltStr x y = true) : ltStr y x = false := by
  cases h2 : ltStr y x
  · rfl
  · have := swo_ltStr.trans _ _ _ h h2
    rw [swo_ltStr.irrefl] at this; cases this

theorem nameLe_total (a b : Exp) : (nameLe a b || nameLe b a) = true := by
  unfold nameLe
  cases h : ltStr b.name a.name
  · simp
  · rw [ltStr_asymm h]; simp

theorem byNames_perm (l : List Exp) : (byNames l).Perm l := List.mergeSort_perm _ _
theorem byNames_sorted (l : List Exp) : (byNames l).Pairwise (fun a b => nameLe a b = true) := List.pairwise_mergeSort nameLe_trans nameLe_total l

/-- Names that differ from one another. -/
def NamesApart (l : List Exp) : Prop := l.Pairwise (fun x y => x.name ≠ y.name)

theorem apart_of_mem {l : List Exp} (h : NamesApart l) {x y : Exp} (hx : x ∈ l) (hy : y ∈ l) (he : x.name = y.name) : x = y := by
  induction l with
  | nil => cases hx
  | cons z l ih =>
    have hp := List.pairwise_cons.1 h
    rcases List.mem_cons.1 hx with e1 | h1
    · rcases List.mem_cons.1 hy with e2 | h2
      · rw [e1, e2]
      · rw [e1] at he; exact absurd he (hp.1 y h2)
    · rcases List.mem_cons.1 hy with e2 | h2
      · rw [e2] at he; exact absurd he.symm (hp.1 x h1)
      · exact ih hp.2 h1 h2

/-- There is one order by names alone. -/
theorem byNames_unique {l l' : List Exp} (h : NamesApart l) (hp : l'.Perm l) (hs : l'.Pairwise (fun a b => nameLe a b = true)) : l' = byNames l := by
  refine List.Perm.eq_of_pairwise (le := fun a b => nameLe a b = true) (fun a b ha hb h1 h2 => ?_) hs (byNames_sorted l) (hp.trans (byNames_perm l).symm)
  refine apart_of_mem h (hp.mem_iff.1 ha) ((byNames_perm l).mem_iff.1 hb) ?_
  unfold nameLe at h1 h2
  simp only [Bool.not_eq_true'] at h1 h2
  exact ltStr_anti h2 h1

theorem sorted_list {d' : Array Exp} (h : SortedIn (Go.Proofs.ltOf cmpE) 0 d'.size d') : d'.toList.Pairwise (fun a b => nameLe a b = true) := by
  rw [List.pairwise_iff_getElem]
  intro i j hi hj hij
  have hi' : i < d'.size := by simpa using hi
  have hj' : j < d'.size := by simpa using hj
  have := h i j (Nat.zero_le _) hij hj'
  rw [getElem!_pos d' j hj', getElem!_pos d' i hi', ltE] at this
  unfold nameLe
  simpa using this

theorem sorted_is {d d' : Array Exp} (h : NamesApart d.toList) (hp : PermIn 0 d.size d d') (hs : SortedIn (Go.Proofs.ltOf cmpE) 0 d.size d') : d'.toList = byNames d.toList := by
  obtain ⟨h1, -, h3⟩ := hp
  refine byNames_unique h ?_ (sorted_list (by rw [h1]; exact hs))
  have e1 : d'.extract 0 d.size = d' := by rw [← h1]; simp
  have e2 : d.extract 0 d.size = d := by simp
  rw [e1, e2] at h3; exact h3
end Go.Proofs.YtipgcdpmkpjokaaDoor
