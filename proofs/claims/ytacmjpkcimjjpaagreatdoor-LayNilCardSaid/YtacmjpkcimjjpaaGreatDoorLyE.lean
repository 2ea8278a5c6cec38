/- Package lay: Fits at nil. -/
import Derived.Test.YtacmjpkcimjjpaaGreatDoorLyD
import Derived.WalkMore
namespace Go.Proofs.YtacmjpkcimjjpaaGreatDoor
set_option linter.unusedSimpArgs false
set_option linter.unusedVariables false
open Go.RowKit

theorem ly_fits_nil (w : World) (I : Array Value) (n : Int) : Calls Tryz.prog 16 #[.pointer none, .agg I, .int .u64 n] w fun e w' => e = .returned (.int .i64 1) ∧ Below w.heap.size w w' := by
  have H := hid (show Below w.heap.size w (w.alloc (.cells I 37)) from (Below.refl _ _).alloc (Nat.le_refl _) _)
  go_enter Tryz.func16, Tryz.ntmps16
  go_wp2_with fail
  go_step3
  go_wp2_with fail
  rw [Exit.noGoto_ret]
  go_ret
  exact ⟨rfl, H.out⟩
end Go.Proofs.YtacmjpkcimjjpaaGreatDoor
