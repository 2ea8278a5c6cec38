/-
  No cell of these rows narrows 'for every input' (looked for: loops, veiled, ifaces, maps, wideKeys, modest, calm, conditions, laid).
  DERIVED. THE GIVEN ROWS OF THIS SEAT. 3 by the template 'for every input the law returns true; each argument reads behind the call as it read before'; 0 by the template 'total and deterministic' (their statements: YthlnjfnjmjdohaaTotals.lean).
  GIVEN WITH THE SEED: the statements are not yours to turn. If you find one false, say at which input.
  Laid BY PROGRAM, IN A SANDBOX (cutbox-rows.mjs): the forced cells as the released guide's own fill.sh prints them over the translation 626786348062a7f3… (all of the seat's roots in one cut). By AI agents, Wed Nov 11 2026. No macro, syntax, notation, axiom, sorry.
-/
import Derived.Test.YthlnjfnjmjdohaaChecked
import GoSem.Claim
import GoSem.ClaimJoined
import GoSem.ClaimMapViews
import Derived.JoinedTies
import Derived.KernelRfl
namespace Go.Proofs.Ythlnjfnjmjdohaa
/- THE CELL 'sum', in the pinned program and in every row, IS THE sha256 OF THE DUMP (.gsa) THAT YthlnjfnjmjdohaaProg.lean LOADS. Nothing in Lean hashes anything: it is a label: what it is worth is what the hold of that sum in a sandbox is worth. -/
noncomputable def Try.pinned : Pinned := { name := "ythlnjfnjmjdohaa", sum := "626786348062a7f3ad990003b8b05a18fb63bd35cb4edd9b3346a73851d849a2", checked := Try.checked }
namespace Rows
def none {H : Type} : Left H := { results := [], args := [] }

/-- 'clevislaw29.BesideMemory': WHATEVER THE INPUT: true; the input reads as it did. -/
def besideMemorySpec : ChangeSpec := { name := "besideMemory", fn := fun _ => fun
  | [d1, d2] => { results := [.lit (.bool true)], args := [d1, d2] }
  | _ => none }
def besideMemoryRow : OpenClaim := { program := "ythlnjfnjmjdohaa", sum := "626786348062a7f3ad990003b8b05a18fb63bd35cb4edd9b3346a73851d849a2", func := "clevis/clevislaw29.BesideMemory", spec := "besideMemory", unfollowed := true, recurses := true, apart := false }
def BesideMemorySaid : Prop := besideMemoryRow.holds Try.pinned (OpenSpec.ofChange besideMemorySpec)

/-- ITS FALSE NEIGHBOUR: 'it returns false'. Refute it at one input. -/
def besideMemoryWrong : ChangeSpec := { name := "besideMemory", fn := fun _ => fun
  | [d1, d2] => { results := [.lit (.bool false)], args := [d1, d2] }
  | _ => none }
def BesideMemoryWrongFalsely : Prop := besideMemoryRow.holds Try.pinned (OpenSpec.ofChange besideMemoryWrong)

/-- 'clevislaw29.BesideOdd': WHATEVER THE INPUT: true; the input reads as it did. -/
def besideOddSpec : ChangeSpec := { name := "besideOdd", fn := fun _ => fun
  | [d1, d2] => { results := [.lit (.bool true)], args := [d1, d2] }
  | _ => none }
def besideOddRow : OpenClaim := { program := "ythlnjfnjmjdohaa", sum := "626786348062a7f3ad990003b8b05a18fb63bd35cb4edd9b3346a73851d849a2", func := "clevis/clevislaw29.BesideOdd", spec := "besideOdd", unfollowed := true, recurses := true, apart := false }
def BesideOddSaid : Prop := besideOddRow.holds Try.pinned (OpenSpec.ofChange besideOddSpec)

/-- ITS FALSE NEIGHBOUR: 'it returns false'. Refute it at one input. -/
def besideOddWrong : ChangeSpec := { name := "besideOdd", fn := fun _ => fun
  | [d1, d2] => { results := [.lit (.bool false)], args := [d1, d2] }
  | _ => none }
def BesideOddWrongFalsely : Prop := besideOddRow.holds Try.pinned (OpenSpec.ofChange besideOddWrong)

/-- 'clevislaw29.BesideLays': WHATEVER THE INPUT: true; the input reads as it did. -/
def besideLaysSpec : ChangeSpec := { name := "besideLays", fn := fun _ => fun
  | [d1, d2] => { results := [.lit (.bool true)], args := [d1, d2] }
  | _ => none }
def besideLaysRow : OpenClaim := { program := "ythlnjfnjmjdohaa", sum := "626786348062a7f3ad990003b8b05a18fb63bd35cb4edd9b3346a73851d849a2", func := "clevis/clevislaw29.BesideLays", spec := "besideLays", unfollowed := true, recurses := true, apart := false }
def BesideLaysSaid : Prop := besideLaysRow.holds Try.pinned (OpenSpec.ofChange besideLaysSpec)

/-- ITS FALSE NEIGHBOUR: 'it returns false'. Refute it at one input. -/
def besideLaysWrong : ChangeSpec := { name := "besideLays", fn := fun _ => fun
  | [d1, d2] => { results := [.lit (.bool false)], args := [d1, d2] }
  | _ => none }
def BesideLaysWrongFalsely : Prop := besideLaysRow.holds Try.pinned (OpenSpec.ofChange besideLaysWrong)

/- THE SECOND FORM. 'bulk': how many values and letters a reading holds, each counted each time it is reached (what is shared counts as often as it is met; a slice's spare places count too). A statement '..UptoSaid' is the law's where the arguments, and the package variables that the reading takes, are together of bulk at most 1048576: NARROWER than '..Said'. Prove '..Said' where nothing that the law and all that it calls make is longer than what came in: it says more and counts as full. Else prove '..UptoSaid'. A law counts once. -/
mutual
def uptoBulk {H : Type} : DataW H → Nat
  | .lit (.string bytes) => bytes.length + 1
  | .lit _ => 1
  | .nil => 1
  | .ptr d => uptoBulk d + 1
  | .slice elems spare => uptoBulkAll elems + uptoBulkAll spare + 1
  | .agg parts => uptoBulkAll parts + 1
  | .iface _ d => uptoBulk d + 1
  | .map entries => uptoBulkEntries entries + 1
  | .held _ => 1
def uptoBulkAll {H : Type} : List (DataW H) → Nat
  | [] => 0
  | d :: r => uptoBulk d + uptoBulkAll r
def uptoBulkEntries {H : Type} : List (Lit × DataW H) → Nat
  | [] => 0
  | x :: r => uptoBulkEntry x + uptoBulkEntries r
def uptoBulkEntry {H : Type} : Lit × DataW H → Nat
  | (.string bytes, d) => bytes.length + uptoBulk d + 1
  | (_, d) => uptoBulk d + 1
 end
def uptoSmall : (H : Type) → List (DataW H) → Bool := fun _ ds => decide (uptoBulkAll ds ≤ 1048576)
def OpenSpec.upto (s : _root_.Go.ChangeSpec) : _root_.Go.OpenSpec := { _root_.Go.OpenSpec.ofChange s with cond := some uptoSmall }

/-- 'clevislaw29.BesideMemory', WHERE WHAT IT READS IS OF BULK AT MOST 1048576: true; the input reads as it did. -/
def besideMemoryUptoRow : OpenClaim := { program := "ythlnjfnjmjdohaa", sum := "626786348062a7f3ad990003b8b05a18fb63bd35cb4edd9b3346a73851d849a2", func := "clevis/clevislaw29.BesideMemory", spec := "besideMemory", unfollowed := true, recurses := true, apart := false, narrowed := true }
def BesideMemoryUptoSaid : Prop := besideMemoryUptoRow.holds Try.pinned (OpenSpec.upto besideMemorySpec)

/-- 'clevislaw29.BesideOdd', WHERE WHAT IT READS IS OF BULK AT MOST 1048576: true; the input reads as it did. -/
def besideOddUptoRow : OpenClaim := { program := "ythlnjfnjmjdohaa", sum := "626786348062a7f3ad990003b8b05a18fb63bd35cb4edd9b3346a73851d849a2", func := "clevis/clevislaw29.BesideOdd", spec := "besideOdd", unfollowed := true, recurses := true, apart := false, narrowed := true }
def BesideOddUptoSaid : Prop := besideOddUptoRow.holds Try.pinned (OpenSpec.upto besideOddSpec)

/-- 'clevislaw29.BesideLays', WHERE WHAT IT READS IS OF BULK AT MOST 1048576: true; the input reads as it did. -/
def besideLaysUptoRow : OpenClaim := { program := "ythlnjfnjmjdohaa", sum := "626786348062a7f3ad990003b8b05a18fb63bd35cb4edd9b3346a73851d849a2", func := "clevis/clevislaw29.BesideLays", spec := "besideLays", unfollowed := true, recurses := true, apart := false, narrowed := true }
def BesideLaysUptoSaid : Prop := besideLaysUptoRow.holds Try.pinned (OpenSpec.upto besideLaysSpec)

end Rows
end Go.Proofs.Ythlnjfnjmjdohaa
