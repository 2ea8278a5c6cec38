/- Package lay: Slides at what it refuses ahead of all. -/
import Derived.Test.YtacmjpkcimjjpaaGreatDoorLyB
namespace Go.Proofs.YtacmjpkcimjjpaaGreatDoor
set_option linter.unusedSimpArgs false
set_option linter.unusedVariables false
open Go.RowKit

theorem ly_slides0 (w : World) : Calls Tryz.prog 15 #[.int .u64 0, .slice none 0 0] w fun e w' => e = .returned (.tuple #[.slice none 0 0, .int .i64 0, .int .i64 2]) ∧ w = w' := by
  go_enter Tryz.func15, Tryz.ntmps15
  go_wp2_with fail
  go_ret3
  exact ⟨rfl, rfl⟩

theorem ly_slides1 (w : World) (p : Option Addr) (cap : Nat) : Calls Tryz.prog 15 #[.int .u64 1, .slice p 1 cap] w fun e w' => e = .returned (.tuple #[.slice none 0 0, .int .i64 0, .int .i64 2]) ∧ w = w' := by
  go_enter Tryz.func15, Tryz.ntmps15
  go_wp2_with fail
  go_ret3
  exact ⟨rfl, rfl⟩
end Go.Proofs.YtacmjpkcimjjpaaGreatDoor
