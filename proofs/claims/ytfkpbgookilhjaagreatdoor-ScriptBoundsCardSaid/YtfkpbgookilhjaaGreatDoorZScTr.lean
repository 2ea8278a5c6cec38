/- Whether it may be told: the program, whole. -/
import Derived.Test.YtfkpbgookilhjaaGreatDoorZScTg
import Derived.Test.YtfkpbgookilhjaaGreatDoorZScTo
namespace Go.Proofs.YtfkpbgookilhjaaGreatDoor
set_option linter.unusedSimpArgs false
set_option linter.unusedVariables false
open Go.RowKit

/-- How many there are, as Go adds them up. -/
def Small (t : ToldV) : Prop := t.seats.length + t.mem.length + t.inits.length ≤ 9223372036854775807

theorem mayFH_m (t : ToldV) : mayFH t.h = mayFault t.m := by
  unfold mayFH bareH mayFault ToldV.h ToldV.m
  simp only [List.length_map]

theorem mayT_eq {w : World} {t : ToldV} (h : ToldAt w t) : mayT t.m = if t.er = 0 then mayLV t else mayFault t.m := by
  unfold mayT
  by_cases he : t.er = 0
  · rw [if_pos he, if_pos (show t.m.err = 0 from he), mayLV_m h]
  · rw [if_neg he, if_neg (show ¬ t.m.err = 0 from he)]

theorem tl_may (w : World) (t : ToldV) (h : ToldAt w t) (hs : Small t) : Calls Tryz.prog 14 #[.agg t.h.cells] w fun e w' => e = .returned (.bool (mayT t.m)) ∧ Below w.heap.size w w' := by
  rw [mayT_eq h]
  by_cases he : t.er = 0
  · rw [if_pos he]; exact tl_may_linked w t h he
  · rw [if_neg he, ← mayFH_m]; exact tl_may_fault w t.h hs he
end Go.Proofs.YtfkpbgookilhjaaGreatDoor
