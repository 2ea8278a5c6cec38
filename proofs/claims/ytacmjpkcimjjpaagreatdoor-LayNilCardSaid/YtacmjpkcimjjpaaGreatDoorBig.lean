/- Loads of great structs, whole: one equation in the place of a step a cell. Plain laws, over any program. -/
import Derived.Test.YtacmjpkcimjjpaaGreatDoorKitB
import Derived.Deep.MidRow
namespace Go.Proofs.YtacmjpkcimjjpaaGreatDoor
set_option linter.unusedSimpArgs false
set_option linter.unusedVariables false
open Go.RowKit

/-- n cells from an offset of a block on, if they are there. -/
def rowL (w : World) (B : Nat) : Nat → Nat → Option (List Value)
  | _, 0 => some []
  | o, n + 1 =>
    match w.cell? ⟨B, o, none⟩ with
    | some v => (rowL w B (o + 1) n).map (v :: ·)
    | none => none

/-- n cells from an address on. -/
def rowA (w : World) (a : Addr) (n : Nat) : Option (Array Value) :=
  if a.spot = none then (rowL w a.block a.off n).map List.toArray else none

theorem rowL_of {w : World} {B : Nat} : ∀ (l : List Value) (o : Nat), w.rangeAt B o l → rowL w B o l.length = some l
  | [], o, _ => rfl
  | v :: l, o, h => by
    have h0 := h 0 v rfl
    rw [Nat.add_zero] at h0
    have h1 := rowL_of l (o + 1) (fun j u hu => by
      have := h (j + 1) u (by simpa using hu)
      rwa [show o + (j + 1) = o + 1 + j by omega] at this)
    simp [rowL, h0, h1]

theorem rowL_back {w : World} {B : Nat} : ∀ (n o : Nat) (l : List Value), rowL w B o n = some l → l.length = n ∧ w.rangeAt B o l
  | 0, o, l, h => by
    simp [rowL] at h; subst h
    exact ⟨rfl, fun j v hv => by simp at hv⟩
  | n + 1, o, l, h => by
    simp only [rowL] at h
    cases hc : w.cell? ⟨B, o, none⟩ with
    | none => rw [hc] at h; cases h
    | some v =>
      rw [hc] at h
      obtain ⟨r, hr, rfl⟩ := Option.map_eq_some_iff.1 h
      obtain ⟨h1, h2⟩ := rowL_back n (o + 1) r hr
      refine ⟨by simp [h1], fun j u hu => ?_⟩
      cases j with
      | zero => simp at hu; subst hu; exact hc
      | succ j =>
        have := h2 j u (by simpa using hu)
        rwa [show o + (j + 1) = o + 1 + j by omega]

theorem rowA_of {w : World} {B o n : Nat} {I : Array Value} (hs : I.size = n) (h : w.rangeAt B o I.toList) : rowA w ⟨B, o, none⟩ n = some I := by
  have := rowL_of I.toList o h
  have hl : I.toList.length = n := by simpa using hs
  rw [hl] at this
  simp [rowA, this]

/-- Out of a block that is known. -/
theorem rowA_block {w : World} {B n : Nat} {I : Array Value} {t : TypeId} {fr : Nat × Nat} (h : w.heap[B]? = some (.cells I t fr)) (hs : I.size = n) : rowA w ⟨B, 0, none⟩ n = some I := by
  have hr := World.rangeAt_of_block h 0 n
  have e : I.extract 0 (0 + n) = I := by rw [Nat.zero_add, ← hs]; simp
  rw [e] at hr
  exact rowA_of hs hr

theorem rowA_part {w : World} {B o n : Nat} {L I : Array Value} {t : TypeId} {fr : Nat × Nat} (h : w.heap[B]? = some (.cells L t fr)) (hs : I.size = n) (hI : L.extract o (o + n) = I) : rowA w ⟨B, o, none⟩ n = some I := by
  have hr := World.rangeAt_of_block h o n
  rw [hI] at hr
  exact rowA_of hs hr

theorem rowL_congr {w w' : World} {B : Nat} (h : ∀ o, w'.cell? ⟨B, o, none⟩ = w.cell? ⟨B, o, none⟩) : ∀ n o, rowL w' B o n = rowL w B o n
  | 0, o => rfl
  | n + 1, o => by simp only [rowL, h o, rowL_congr h n (o + 1)]
theorem rowA_congr {w w' : World} (h : ∀ a, w'.cell? a = w.cell? a) (a : Addr) (n : Nat) : rowA w' a n = rowA w a n := by
  unfold rowA; rw [rowL_congr (fun o => h _)]
@[go_sem] theorem rowA_drew (w : World) (a : Addr) (n : Nat) : rowA w.drew a n = rowA w a n := rowA_congr (w := w) (w' := w.drew) (fun _ => rfl) a n
@[go_sem] theorem rowA_drewN (w : World) (q : Nat) (a : Addr) (n : Nat) : rowA (w.drewN q) a n = rowA w a n := rowA_congr (w := w) (w' := w.drewN q) (fun _ => rfl) a n

theorem rowA_below {B : Nat} {w w' : World} (hb : Below B w w') {a : Addr} {n : Nat} {I : Array Value} (ha : a.block < B) (h : rowA w a n = some I) : rowA w' a n = some I := by
  obtain ⟨b, o, sp⟩ := a
  unfold rowA at h ⊢
  by_cases hs : sp = none
  · subst hs
    simp only [if_true] at h ⊢
    obtain ⟨l, hl, rfl⟩ := Option.map_eq_some_iff.1 h
    obtain ⟨h1, h2⟩ := rowL_back n o l hl
    have h3 : w'.rangeAt b o l := fun j v hv => by
      have := h2 j v hv
      rw [hb.cell (p := ⟨b, o + j, none⟩) ha]
      exact this
    have h4 := rowL_of l o h3
    rw [h1] at h4
    rw [h4]; rfl
  · simp [hs] at h

/-- The load as it is made a cell at a time. -/
def loadOld (t : TypeId) (a : Addr) : Sem Value := loadVar t a

/-- The same under another name: for where nothing stands there. -/
def loadBare (t : TypeId) (a : Addr) : Sem Value := loadVar t a
theorem loadVar_old (t : TypeId) (a : Addr) : loadVar t a = loadOld t a := rfl

/-- What a load gives, by what stands there. -/
def loadRes (P : Program) (t : TypeId) (a : Addr) (w : World) : Option (Array Value) → Result Value
  | some I => .ok (.agg I) w
  | none => (loadBare t a).run P w

@[go_sem] theorem loadRes_some (P : Program) (t : TypeId) (a : Addr) (w : World) (I : Array Value) : loadRes P t a w (some I) = .ok (.agg I) w := rfl

theorem loadVar_big {P : Program} {t : TypeId} {n : Nat} {d : TypeDesc} (hu : P.underlying t = some d) (hd : d.isRow = true) (hi : (P.info? t).map (·.size) = some n) (a : Addr) (w : World) :
    (loadOld t a).run P w = loadRes P t a w (rowA w a n) := by
  cases h : rowA w a n with
  | none => rfl
  | some I =>
    obtain ⟨b, o, sp⟩ := a
    unfold rowA at h
    by_cases hs : sp = none
    · subst hs
      simp only [if_true] at h
      obtain ⟨l, hl, rfl⟩ := Option.map_eq_some_iff.1 h
      obtain ⟨h1, h2⟩ := rowL_back n o l hl
      exact run_loadVar_mid (P := P) w b o t l d h2 hu hd (by rw [hi, h1])
    · simp [hs] at h

end Go.Proofs.YtacmjpkcimjjpaaGreatDoor
