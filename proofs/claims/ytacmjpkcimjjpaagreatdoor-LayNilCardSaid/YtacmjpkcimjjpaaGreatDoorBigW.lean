/- Stores of great structs, whole; what results hold of them. Plain laws, over any program. -/
import Derived.Test.YtacmjpkcimjjpaaGreatDoorBig
import Derived.Deep.WholeRow
namespace Go.Proofs.YtacmjpkcimjjpaaGreatDoor
set_option linter.unusedSimpArgs false
set_option linter.unusedVariables false
open Go.RowKit

/-- Is the block at an address one of n cells of the type t? -/
def fullA (w : World) (a : Addr) (t : TypeId) (n : Nat) : Bool :=
  match a, w.heap[a.block]? with
  | ⟨_, 0, none⟩, some (.cells c t' (0, 0)) => decide (t' = t ∧ c.size = n)
  | _, _ => false

/-- The store as it is made a cell at a time. -/
def storeOld (t : TypeId) (a : Addr) (v : Value) : Sem Unit := storeVar t a v
/-- The same under another name: for where no such block stands there. -/
def storeBare (t : TypeId) (a : Addr) (v : Value) : Sem Unit := storeVar t a v

/-- What a store does, by what stands there. -/
def storeRes (P : Program) (t : TypeId) (a : Addr) (I : Array Value) (w : World) : Bool → Result Unit
  | true => .ok () (w.setRow a.block I)
  | false => (storeBare t a (.agg I)).run P w

@[go_sem] theorem storeRes_true (P : Program) (t : TypeId) (b : Nat) (I : Array Value) (w : World) : storeRes P t ⟨b, 0, none⟩ I w true = .ok () (w.setRow b I) := rfl

theorem fullA_block {w : World} {b n : Nat} {c : Array Value} {t : TypeId} (h : w.heap[b]? = some (.cells c t (0, 0))) (hn : c.size = n) : fullA w ⟨b, 0, none⟩ t n = true := by
  unfold fullA
  rw [h]
  simp [hn]

theorem fullA_out {w : World} {a : Addr} {t : TypeId} {n : Nat} (h : fullA w a t n = true) : ∃ b c, a = ⟨b, 0, none⟩ ∧ w.heap[b]? = some (.cells c t (0, 0)) ∧ c.size = n := by
  unfold fullA at h
  split at h
  · rename_i b c t' hb
    obtain ⟨rfl, h2⟩ := of_decide_eq_true h
    exact ⟨b, c, rfl, hb, h2⟩
  · cases h

theorem storeVar_big {P : Program} {t : TypeId} {n : Nat} (hi : (P.info? t).map (·.size) = some n) (a : Addr) (I : Array Value) (w : World) (hI : I.size = n) (h1 : I.all (·.oneCell') = true) :
    (storeOld t a (.agg I)).run P w = storeRes P t a I w (fullA w a t n) := by
  cases h : fullA w a t n with
  | false => rfl
  | true =>
    obtain ⟨b, c, rfl, hb, hc⟩ := fullA_out h
    exact run_storeVar_row w b t t c I hb (by rw [hi, hI]) (by rw [hc, hI]) h1

/-- The cells of a result. -/
def cellsOld (a : Addr) (n : Nat) : Sem (Array Value) := loadCellsFrom a 0 n #[]
def cellsBare (a : Addr) (n : Nat) : Sem (Array Value) := loadCellsFrom a 0 n #[]
def cellsRes (P : Program) (a : Addr) (n : Nat) (w : World) : Option (Array Value) → Result (Array Value)
  | some I => .ok I w
  | none => (cellsBare a n).run P w
@[go_sem] theorem cellsRes_some (P : Program) (a : Addr) (n : Nat) (w : World) (I : Array Value) : cellsRes P a n w (some I) = .ok I w := rfl

theorem cells_big {P : Program} (a : Addr) (n : Nat) (w : World) : (cellsOld a n).run P w = cellsRes P a n w (rowA w a n) := by
  cases h : rowA w a n with
  | none => rfl
  | some I =>
    obtain ⟨b, o, sp⟩ := a
    unfold rowA at h
    by_cases hs : sp = none
    · subst hs
      simp only [if_true] at h
      obtain ⟨l, hl, rfl⟩ := Option.map_eq_some_iff.1 h
      obtain ⟨h1, h2⟩ := rowL_back n o l hl
      subst h1
      have := run_loadCells_list (P := P) w ⟨b, o, none⟩ l (fun j v hv => by
        have hadd : (⟨b, o, none⟩ : Addr).add j = ⟨b, o + j, none⟩ := by unfold Addr.add; split <;> simp_all
        rw [hadd]; exact h2 j v hv)
      show (loadCellsFrom ⟨b, o, none⟩ 0 l.length #[]).run P w = .ok l.toArray w
      simpa [loadCells] using this
    · simp [hs] at h

/-- The zero value of a great struct. -/
def zeroOld (t : TypeId) : Sem Value := zeroValue t

attribute [go_sem] World.setRow_alloc_new

/-- The block that was made last. -/
theorem fullA_last (W : World) (c : Array Value) (t : TypeId) (B n : Nat) (h : W.heap.size = B) : fullA (W.alloc (.cells c t)) ⟨B, 0, none⟩ t n = decide (c.size = n) := by
  subst h
  unfold fullA
  rw [heap_alloc_new]
  simp
theorem setRow_last (W : World) (c c' : Array Value) (t : TypeId) (B : Nat) (h : W.heap.size = B) : (W.alloc (.cells c t)).setRow B c' = W.alloc (.cells c' t) := by
  subst h
  exact World.setRow_alloc_new W c c' t
theorem rowA_last (W : World) (c : Array Value) (t : TypeId) (B n : Nat) (h : W.heap.size = B) (hn : c.size = n) : rowA (W.alloc (.cells c t)) ⟨B, 0, none⟩ n = some c := by
  subst h
  exact rowA_block (heap_alloc_new W _) hn
theorem rowA_older (W : World) (o : Obj) (B n : Nat) (h : B < W.heap.size) : rowA (W.alloc o) ⟨B, 0, none⟩ n = rowA W ⟨B, 0, none⟩ n := by
  unfold rowA
  have : ∀ (n o' : Nat), rowL (W.alloc o) B o' n = rowL W B o' n := fun n o' => rowL_congr (fun o'' => World.cell?_alloc_lt _ _ ⟨B, o'', none⟩ h) n o'
  rw [this]

theorem setRow_self {w : World} {b : Nat} {c : Array Value} {t : TypeId} (h : w.heap[b]? = some (.cells c t (0, 0))) : w.setRow b c = w := by
  have hh : (w.setRow b c).heap = w.heap := by
    apply Array.ext_getElem?
    intro j
    by_cases hj : j = b
    · subst hj; rw [setRow_heap w j c c t _ h, h]
    · exact setRow_other w b j c hj
  cases w with
  | mk => simp [World.setRow] at hh ⊢; exact hh

theorem setRow_block {w : World} {b : Nat} {c I : Array Value} {t : TypeId} (h : w.heap[b]? = some (.cells c t (0, 0))) : (w.setRow b I).heap[b]? = some (.cells I t (0, 0)) := setRow_heap w b c I t _ h
theorem Below.setRow {B : Nat} {w w' : World} (h : Below B w w') {b : Nat} (hb : B ≤ b) (I : Array Value) : Below B w (w'.setRow b I) :=
  ⟨h.os, h.tape, h.output, by rw [setRow_size]; exact h.size, fun k hk => (setRow_other w' b k I (by omega)).trans (h.block k hk)⟩
end Go.Proofs.YtacmjpkcimjjpaaGreatDoor
