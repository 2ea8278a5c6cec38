/- A map of names that were met, as these programs keep it: map[string]struct{ is bool }. Plain laws. -/
import Derived.Test.YtdckfcpjdakjaaaKit
import Derived.Maps.Own
import Derived.Maps.OwnOps
import Derived.Maps.OwnSet
import Derived.Maps.Views
namespace Go.Proofs.Ytdckfcpjdakjaaa
set_option linter.unusedSimpArgs false
set_option linter.unusedVariables false
open Go.RowKit Go.Maps

/-- How an element struct{ is bool } reads. -/
def isElem (v : Value) : Option (DataW Unit × List MemPlace) :=
  match v with
  | .agg ⟨[.bool b]⟩ => some (.agg [.lit (.bool b)], [])
  | _ => none

theorem isElem_mk (b : Bool) : isElem (.agg #[.bool b]) = some (.agg [.lit (.bool b)], []) := rfl

theorem isElem_inv {v : Value} {b : Bool} {ps : List MemPlace} (h : isElem v = some (.agg [.lit (.bool b)], ps)) : v = .agg #[.bool b] := by
  unfold isElem at h
  split at h
  · simp only [Option.some.injEq, Prod.mk.injEq, DataW.agg.injEq, List.cons.injEq, DataW.lit.injEq, Lit.bool.injEq] at h
    obtain ⟨⟨rfl, _⟩, _⟩ := h
    rfl
  · cases h

/-- The names that were met, as a datum. -/
def seenD (names : List (List UInt8)) : DataW Unit := setOf (.agg [.lit (.bool true)]) (names.map Lit.string)

theorem seenD_snoc (names : List (List UInt8)) (x : List UInt8) : seenD (names ++ [x]) = (seenD names).put (.string x) (.agg [.lit (.bool true)]) := by
  unfold seenD; rw [List.map_append]; exact setOf_snoc _ _ _

theorem seenD_isMap (names : List (List UInt8)) : IsMap (seenD names) :=
  (tidy_setOf _ _ (fun x hx => by obtain ⟨y, _, rfl⟩ := List.mem_map.1 hx; trivial)).isMap

theorem seenD_at (k : List UInt8) : ∀ (names : List (List UInt8)), (seenD names).atKey (.string k) (.agg [.lit (.bool false)]) = .agg [.lit (.bool (names.any (· == k)))] := by
  intro names
  obtain ⟨r, rfl⟩ : ∃ r, names = r.reverse := ⟨names.reverse, by simp⟩
  induction r with
  | nil => rfl
  | cons x r ih =>
    rw [List.reverse_cons, seenD_snoc]
    by_cases h : x = k
    · subst h
      rw [atKey_put_same (seenD_isMap _) (by trivial)]
      simp
    · rw [atKey_put_other (fun e => h (by cases e; rfl)), ih]
      simp [h]

variable {P : Program} {w : World} {b n : Nat}

/-- 'seen[k].is'. -/
theorem seen_look {t e k : TypeId} {names : List (List UInt8)} (h : w.ownsMap P k isElem b n (seenD names)) (K : Keyed P k) (ht : P.underlying t = some (.map k e))
    (hz : (zeroValue e).run P w = .ok (.agg #[.bool false]) w) {key : Value} {kl : List UInt8} (hkey : keyOf P k key = some (.string kl)) :
    (Instr.lookup t (.map (some b)) key false).run P w = .ok (.agg #[.bool (names.any (· == kl))]) w := by
  obtain ⟨v, ps, hrun, hv⟩ := h.lookup K ht hz (isElem_mk false) hkey
  rw [seenD_at] at hv
  rw [hrun, isElem_inv hv]

end Go.Proofs.Ytdckfcpjdakjaaa
