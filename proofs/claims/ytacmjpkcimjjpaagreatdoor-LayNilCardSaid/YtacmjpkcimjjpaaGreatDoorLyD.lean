/- Package lay: Lay at what it refuses ahead of all. -/
import Derived.Test.YtacmjpkcimjjpaaGreatDoorLyC
namespace Go.Proofs.YtacmjpkcimjjpaaGreatDoor
set_option linter.unusedSimpArgs false
set_option linter.unusedVariables false
open Go.RowKit

theorem ly_lay_nil (w : World) (v : Value) (n : Int) : Calls Tryz.prog 13 #[.pointer none, v, .int .u64 n] w fun e w' => e = .returned (.int .i64 1) ∧ w = w' := by
  go_enter Tryz.func13, Tryz.ntmps13
  go_wp2_with fail
  go_ret
  exact ⟨rfl, rfl⟩

theorem ly_lay_odd (w : World) (s : Nat) (v : Value) : Calls Tryz.prog 13 #[.pointer (some ⟨s, 0, none⟩), v, .int .u64 1] w fun e w' => e = .returned (.int .i64 2) ∧ w = w' := by
  go_enter Tryz.func13, Tryz.ntmps13
  go_wp2_with fail
  go_ret
  exact ⟨rfl, rfl⟩
end Go.Proofs.YtacmjpkcimjjpaaGreatDoor
