/- Package lay: up; the closure of Slides. -/
import Derived.Test.YtacmjpkcimjjpaaGreatDoorImD
import Derived.Deep.RegionHeld3
import Derived.Deep.RegionWith
namespace Go.Proofs.YtacmjpkcimjjpaaGreatDoor
set_option linter.unusedSimpArgs false
set_option linter.unusedVariables false
open Go.RowKit

attribute [local go_sem ↓] old_img
attribute [local go_sem] big_img

def upM (n : Nat) : Nat := (n + 16383) % 18446744073709551616 / 16384 * 16384

theorem ly_up (w : World) (n : Nat) : Calls Tryz.prog 35 #[.int .u64 (n : Int)] w fun e w' => e = .returned (.int .u64 (upM n : Int)) ∧ w = w' := by
  obtain ⟨a, ha⟩ : ∃ a, a = (n + 16383) % 18446744073709551616 := ⟨_, rfl⟩
  obtain ⟨d, hd⟩ : ∃ d, d = a / 16384 := ⟨_, rfl⟩
  have hu : upM n = d * 16384 := by unfold upM; rw [← ha, ← hd]
  have h1 : IntKind.u64.wrap ((n : Int) + 16384) = (((n + 16384) % 18446744073709551616 : Nat) : Int) := by
    show ((n : Int) + 16384) % 18446744073709551616 = _; omega
  obtain ⟨c, hc⟩ : ∃ c, c = (n + 16384) % 18446744073709551616 := ⟨_, rfl⟩
  rw [← hc] at h1
  have h2 : IntKind.u64.wrap ((c : Int) - 1) = (a : Int) := by
    show ((c : Int) - 1) % 18446744073709551616 = _; omega
  have h3 : Int.tdiv (a : Int) 16384 = (d : Int) := by rw [Int.tdiv_eq_ediv_of_nonneg (by omega)]; omega
  have h3' : (a : Int) / 16384 = (d : Int) := by omega
  have h4 : IntKind.u64.wrap (d : Int) = (d : Int) := IntWalk.u64_in _ (by omega)
  have h5 : IntKind.u64.wrap ((d : Int) * 16384) = ((d * 16384 : Nat) : Int) := (IntWalk.u64_in _ (by omega)).trans (by omega)
  obtain ⟨U, hU⟩ : ∃ U, U = d * 16384 := ⟨_, rfl⟩
  rw [← hU] at h5 hu
  rw [hu]
  clear hu ha hd hc hU
  go_enter Tryz.func35, Tryz.ntmps35
  go_wp2_with fail
  go_ret
  exact ⟨rfl, rfl⟩
end Go.Proofs.YtacmjpkcimjjpaaGreatDoor
