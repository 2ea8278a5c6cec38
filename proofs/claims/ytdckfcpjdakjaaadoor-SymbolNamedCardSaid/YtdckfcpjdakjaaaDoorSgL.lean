/- What the listed tables' premise gives SymbolNamed's walk: one cell of math/bits' table. -/
import Derived.Test.YtdckfcpjdakjaaaDoorSgH
import Derived.ProofKit
import Derived.LaidMore
import Derived.OpenShut
import Derived.Stop.Joined
namespace Go.Proofs.YtdckfcpjdakjaaaDoor
set_option linter.unusedSimpArgs false
set_option linter.unusedVariables false
open Go.ChangeShapes Go.WideShapes Go.ChangeAt Go.RowKit


theorem g_tab64 : Tryd.prog.globalNamed "math/bits.deBruijn64tab" = some 2 := by kernel_rfl
theorem t_tab64 : (Tryd.prog.globals[2]?).map (·.type) = some 77 := by kernel_rfl

theorem tab_of_laid {W : World} (h : laidMetH Tryd.prog [("math/bits.deBruijn32tab", Rows.laid_math_bits_deBruijn32tab), ("math/bits.deBruijn64tab", Rows.laid_math_bits_deBruijn64tab), ("internal/strconv.uint64pow10", Rows.laid_internal_strconv_uint64pow10)] W) :
    W.cell? ⟨2, 15, none⟩ = some (.int .u8 4) := by
  rw [MakeChecks.laidMetH_plain _ _ _ (by kernel_rfl)] at h
  obtain ⟨ps, ⟨g0, t0, cs0, f0, p0, q0, hg0, ht0, hv0, hd0, ⟨g1, t1, cs1, f1, p1, q1, hg1, ht1, hv1, hd1, -⟩, -⟩, -⟩ := h
  obtain rfl := Option.some.inj (g_tab64.symm.trans hg1)
  obtain rfl := Option.some.inj (t_tab64.symm.trans ht1)
  obtain ⟨xs, m1, -, hx1, hlen, hn3, hel⟩ := DataW.trod_array Tryd.underlying77 hd1
  have c5 : Tryd.prog.cellsOf 5 = 1 := by kernel_rfl
  have h15 := hel 15 (by decide)
  rw [c5] at h15
  simp only [Prod.mk.injEq] at hx1
  have hx : (xs.map (·.1))[15]? = some (.lit (.int .u8 4)) := by
    have h2 := hx1.1
    simp only [Rows.laid_math_bits_deBruijn64tab, DataW.agg.injEq] at h2
    rw [← h2]
    rfl
  rw [List.getElem?_map] at hx
  obtain ⟨x, hxs, hx0⟩ := Option.map_eq_some_iff.1 hx
  rw [hxs] at h15
  obtain ⟨k, e1, e2, -⟩ := DataW.trod_int Tryd.underlying5 h15
  have hk : k = 4 := by rw [e2] at hx0; simpa using hx0
  subst hk
  have hc := World.var?_cell hg1 hv1 15
  rw [hc]
  have h3 : (cs1.toList.drop (15 * 1))[0]? = some (.int .u8 4) := by
    have h4 : ((cs1.toList.drop (15 * 1)).take 1)[0]? = some (.int .u8 4) := by rw [e1]; rfl
    rwa [List.getElem?_take_of_lt (by omega)] at h4
  rw [List.getElem?_drop] at h3
  simpa using h3

end Go.Proofs.YtdckfcpjdakjaaaDoor
