/-
  No cell of these rows narrows 'for every input' (looked for: loops, veiled, ifaces, maps, wideKeys, modest, calm, conditions, laid).
  DERIVED. THE GIVEN ROWS OF THIS SEAT. 2 by the template 'for every input the law returns true; each argument reads behind the call as it read before'; 0 by the template 'total and deterministic' (their statements: YtacmjpkcimjjpaaTotals.lean).
  GIVEN WITH THE SEED: the statements are not yours to turn. If you find one false, say at which input.
  Laid BY PROGRAM, IN A SANDBOX (cutbox-rows.mjs): the forced cells as the released guide's own fill.sh prints them over the translation 680e11c672c0b9c7… (all of the seat's roots in one cut). By AI agents, Wed Nov 11 2026. No macro, syntax, notation, axiom, sorry.
-/
import Derived.Test.YtacmjpkcimjjpaaChecked
import GoSem.Claim
import GoSem.ClaimJoined
import GoSem.ClaimMapViews
import Derived.JoinedTies
import Derived.KernelRfl
namespace Go.Proofs.Ytacmjpkcimjjpaa
/- THE CELL 'sum', in the pinned program and in every row, IS THE sha256 OF THE DUMP (.gsa) THAT YtacmjpkcimjjpaaProg.lean LOADS. Nothing in Lean hashes anything: it is a label: what it is worth is what the hold of that sum in a sandbox is worth. -/
noncomputable def Try.pinned : Pinned := { name := "ytacmjpkcimjjpaa", sum := "680e11c672c0b9c7843c3d1db29d27443fe4168f4d6ef2609c792486da0c3660", checked := Try.checked }
namespace Rows
def none {H : Type} : Left H := { results := [], args := [] }

/-- 'clevislaw22.ApplyNil': WHATEVER THE INPUT: true; the input reads as it did. -/
def applyNilSpec : ChangeSpec := { name := "applyNil", fn := fun _ => fun
  | [] => { results := [.lit (.bool true)], args := [] }
  | _ => none }
def applyNilRow : OpenClaim := { program := "ytacmjpkcimjjpaa", sum := "680e11c672c0b9c7843c3d1db29d27443fe4168f4d6ef2609c792486da0c3660", func := "clevis/clevislaw22.ApplyNil", spec := "applyNil", inPlace := ["internal/bytealg.IndexByteString", "internal/bytealg.IndexString"], unfollowed := true, recurses := true, named := ["internal/bytealg.MaxLen"], plainKeys := false, apart := false }
def ApplyNilSaid : Prop := applyNilRow.holds Try.pinned (OpenSpec.ofChange applyNilSpec)

/-- ITS FALSE NEIGHBOUR: 'it returns false'. Refute it at one input. -/
def applyNilWrong : ChangeSpec := { name := "applyNil", fn := fun _ => fun
  | [] => { results := [.lit (.bool false)], args := [] }
  | _ => none }
def ApplyNilWrongFalsely : Prop := applyNilRow.holds Try.pinned (OpenSpec.ofChange applyNilWrong)

/-- 'clevislaw22.ApplyWrites': WHATEVER THE INPUT: true; the input reads as it did. -/
def applyWritesSpec : ChangeSpec := { name := "applyWrites", fn := fun _ => fun
  | [d1, d2, d3, d4, d5, d6] => { results := [.lit (.bool true)], args := [d1, d2, d3, d4, d5, d6] }
  | _ => none }
def applyWritesRow : OpenClaim := { program := "ytacmjpkcimjjpaa", sum := "680e11c672c0b9c7843c3d1db29d27443fe4168f4d6ef2609c792486da0c3660", func := "clevis/clevislaw22.ApplyWrites", spec := "applyWrites", inPlace := ["internal/bytealg.IndexByteString", "internal/bytealg.IndexString"], unfollowed := true, recurses := true, named := ["internal/bytealg.MaxLen"], plainKeys := false, apart := false }
def ApplyWritesSaid : Prop := applyWritesRow.holds Try.pinned (OpenSpec.ofChange applyWritesSpec)

/-- ITS FALSE NEIGHBOUR: 'it returns false'. Refute it at one input. -/
def applyWritesWrong : ChangeSpec := { name := "applyWrites", fn := fun _ => fun
  | [d1, d2, d3, d4, d5, d6] => { results := [.lit (.bool false)], args := [d1, d2, d3, d4, d5, d6] }
  | _ => none }
def ApplyWritesWrongFalsely : Prop := applyWritesRow.holds Try.pinned (OpenSpec.ofChange applyWritesWrong)

/- THE SECOND FORM. 'bulk': how many values and letters a reading holds, each counted each time it is reached (what is shared counts as often as it is met; a slice's spare places count too). A statement '..UptoSaid' is the law's where the arguments, and the package variables that the reading takes, are together of bulk at most 1048576: NARROWER than '..Said'. Prove '..Said' where nothing that the law and all that it calls make is longer than what came in: it says more and counts as full. Else prove '..UptoSaid'. A law counts once. -/
mutual
def uptoBulk {H : Type} : DataW H → Nat
  | .lit (.string bytes) => bytes.length + 1
  | .lit _ => 1
  | .nil => 1
  | .ptr d => uptoBulk d + 1
  | .slice elems spare => uptoBulkAll elems + uptoBulkAll spare + 1
  | .agg parts => uptoBulkAll parts + 1
  | .iface _ d => uptoBulk d + 1
  | .map entries => uptoBulkEntries entries + 1
  | .held _ => 1
def uptoBulkAll {H : Type} : List (DataW H) → Nat
  | [] => 0
  | d :: r => uptoBulk d + uptoBulkAll r
def uptoBulkEntries {H : Type} : List (Lit × DataW H) → Nat
  | [] => 0
  | x :: r => uptoBulkEntry x + uptoBulkEntries r
def uptoBulkEntry {H : Type} : Lit × DataW H → Nat
  | (.string bytes, d) => bytes.length + uptoBulk d + 1
  | (_, d) => uptoBulk d + 1
 end
def uptoSmall : (H : Type) → List (DataW H) → Bool := fun _ ds => decide (uptoBulkAll ds ≤ 1048576)
def OpenSpec.upto (s : _root_.Go.ChangeSpec) : _root_.Go.OpenSpec := { _root_.Go.OpenSpec.ofChange s with cond := some uptoSmall }

/-- 'clevislaw22.ApplyNil', WHERE WHAT IT READS IS OF BULK AT MOST 1048576: true; the input reads as it did. -/
def applyNilUptoRow : OpenClaim := { program := "ytacmjpkcimjjpaa", sum := "680e11c672c0b9c7843c3d1db29d27443fe4168f4d6ef2609c792486da0c3660", func := "clevis/clevislaw22.ApplyNil", spec := "applyNil", inPlace := ["internal/bytealg.IndexByteString", "internal/bytealg.IndexString"], unfollowed := true, recurses := true, named := ["internal/bytealg.MaxLen"], plainKeys := false, apart := false, narrowed := true }
def ApplyNilUptoSaid : Prop := applyNilUptoRow.holds Try.pinned (OpenSpec.upto applyNilSpec)

/-- 'clevislaw22.ApplyWrites', WHERE WHAT IT READS IS OF BULK AT MOST 1048576: true; the input reads as it did. -/
def applyWritesUptoRow : OpenClaim := { program := "ytacmjpkcimjjpaa", sum := "680e11c672c0b9c7843c3d1db29d27443fe4168f4d6ef2609c792486da0c3660", func := "clevis/clevislaw22.ApplyWrites", spec := "applyWrites", inPlace := ["internal/bytealg.IndexByteString", "internal/bytealg.IndexString"], unfollowed := true, recurses := true, named := ["internal/bytealg.MaxLen"], plainKeys := false, apart := false, narrowed := true }
def ApplyWritesUptoSaid : Prop := applyWritesUptoRow.holds Try.pinned (OpenSpec.upto applyWritesSpec)

end Rows
end Go.Proofs.Ytacmjpkcimjjpaa
