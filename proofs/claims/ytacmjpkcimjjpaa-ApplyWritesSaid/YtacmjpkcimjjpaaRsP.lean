/- The reference's Same, at two lists of one piece each. -/
import Derived.Test.YtacmjpkcimjjpaaRsO
namespace Go.Proofs.Ytacmjpkcimjjpaa
set_option linter.unusedSimpArgs false
set_option linter.unusedVariables false
open Go.RowKit Go.Maps

theorem piece_cells {W : World} {n0 : Nat} {v : Value} {x : Pc} (h : W.ownsRow n0 106 3 v 1 (pcCells [x])) : ∃ G c, v = .slice (some ⟨G, 0, none⟩) 1 c ∧ W.cell? ⟨G, 0, none⟩ = some (.int .u64 (x.at_ : Int)) ∧ W.cell? ⟨G, 1, none⟩ = some (.int .i64 x.prot) ∧ W.cell? ⟨G, 2, none⟩ = some x.sl := by
  have hh := h
  rcases h.2 with ⟨he, hz⟩ | ⟨g, c, cur, rfl, -⟩
  · cases hz
  · have h0 := hh.cellAt 0 (by omega)
    have h1 := hh.cellAt 1 (by omega)
    have h2 := hh.cellAt 2 (by omega)
    exact ⟨g, c, rfl, h0, h1, h2⟩

set_option maxRecDepth 10000 in
set_option maxHeartbeats 1000000 in
theorem rs_same (w : World) (n0 n1 : Nat) (v u : Value) (x y : Pc) (hv : w.ownsRow n0 106 3 v 1 (pcCells [x])) (hx : BS w x.sl x.bytes) (hu : w.ownsRow n1 106 3 u 1 (pcCells [y])) (hy : BS w y.sl y.bytes) (he : x.d = y.d) :
    Calls Try.prog 14 #[v, u] w fun e w' => e = .returned (.bool true) ∧ ∃ q, w' = w.drewN q := by
  obtain ⟨G, c, rfl, v0, v1, v2⟩ := piece_cells hv
  obtain ⟨K, d, rfl, u0, u1, u2⟩ := piece_cells hu
  obtain ⟨xa, xp, xs, xc, xb⟩ := x
  obtain ⟨ya, yp, ys, yc, yb⟩ := y
  simp only [Pc.d, Prod.mk.injEq] at he
  obtain ⟨rfl, rfl, rfl⟩ := he
  dsimp only [Pc.sl] at v0 v1 v2 u0 u1 u2 hx hy
  obtain ⟨L, hL⟩ : ∃ L, L = xb.length := ⟨_, rfl⟩
  rw [← hL] at v2 u2
  have hx : BS w (.slice xs L xc) xb := by rw [hL]; exact hx
  have hy : BS w (.slice ys L yc) xb := by rw [hL]; exact hy
  have H := hid (And.intro hx (And.intro hy hL))
  have t1 : ∀ q, (convert 102 9 (.slice xs L xc)).run Try.prog (w.drewN q) = .ok (.string (mkS xb)) (w.drewN q) := fun q => run_toString (P := Try.prog) (w := w.drewN q) xs L xc Try.underlying102 Try.underlying5 Try.underlying9 (show BS (w.drewN q) _ _ from hx)
  have t2 : ∀ q, (convert 102 9 (.slice ys L yc)).run Try.prog (w.drewN q) = .ok (.string (mkS xb)) (w.drewN q) := fun q => run_toString (P := Try.prog) (w := w.drewN q) ys L yc Try.underlying102 Try.underlying5 Try.underlying9 (show BS (w.drewN q) _ _ from hy)
  clear hv hu hx hy hL
  go_enter Try.func14, Try.ntmps14
  go_wp2_with fail
  refine wp_loop_rounds 2 ?_; rw [rounds_succ]
  go_wp2_with fail
  go_quiet (fail)
  go_wp2_with fail
  rw [rounds_succ]
  go_wp2_with fail
  go_ret
  exact ⟨rfl, _, rfl⟩
end Go.Proofs.Ytacmjpkcimjjpaa
