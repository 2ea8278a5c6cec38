/-
  No cell of these rows narrows 'for every input' (looked for: loops, veiled, ifaces, maps, wideKeys, modest, calm, conditions, laid).
  DERIVED. THE GIVEN ROWS OF THIS SEAT. 4 by the template 'for every input the law returns true; each argument reads behind the call as it read before'; 0 by the template 'total and deterministic' (their statements: YthhjdkcnkdffcaaGreatTotals.lean).
  GIVEN WITH THE SEED: the statements are not yours to turn. If you find one false, say at which input.
  Laid BY PROGRAM, IN A SANDBOX (cutbox-rows.mjs): the forced cells as the released guide's own fill.sh prints them over the translation a6c1cedc6f3c85aa… (all of the seat's roots in one cut). By AI agents, Wed Nov 11 2026. No macro, syntax, notation, axiom, sorry.
-/
import Derived.Test.YthhjdkcnkdffcaaGreatChecked
import GoSem.Claim
import GoSem.ClaimJoined
import GoSem.ClaimMapViews
import Derived.JoinedTies
import Derived.KernelRfl
namespace Go.Proofs.YthhjdkcnkdffcaaGreat
/- THE CELL 'sum', in the pinned program and in every row, IS THE sha256 OF THE DUMP (.gsa) THAT YthhjdkcnkdffcaaGreatProg.lean LOADS. Nothing in Lean hashes anything: it is a label: what it is worth is what the hold of that sum in a sandbox is worth. -/
noncomputable def Tryz.pinned : Pinned := { name := "ythhjdkcnkdffcaagreat", sum := "a6c1cedc6f3c85aa080a7f226f6264e790581094ca323bd1420b4f630bd4ee68", checked := Tryz.checked }
namespace Rows
def none {H : Type} : Left H := { results := [], args := [] }

/-- 'clevislaw11.ExportBounds': WHATEVER THE INPUT: true; the input reads as it did. -/
def exportBoundsSpec : ChangeSpec := { name := "exportBounds", fn := fun _ => fun
  | [d] => { results := [.lit (.bool true)], args := [d] }
  | _ => none }
def exportBoundsRow : OpenClaim := { program := "ythhjdkcnkdffcaagreat", sum := "a6c1cedc6f3c85aa080a7f226f6264e790581094ca323bd1420b4f630bd4ee68", func := "clevis/clevislaw11.ExportBounds", spec := "exportBounds", unfollowed := true, recurses := true, apart := false }
def ExportBoundsSaid : Prop := exportBoundsRow.holds Tryz.pinned (OpenSpec.ofChange exportBoundsSpec)

/-- ITS FALSE NEIGHBOUR: 'it returns false'. Refute it at one input. -/
def exportBoundsWrong : ChangeSpec := { name := "exportBounds", fn := fun _ => fun
  | [d] => { results := [.lit (.bool false)], args := [d] }
  | _ => none }
def ExportBoundsWrongFalsely : Prop := exportBoundsRow.holds Tryz.pinned (OpenSpec.ofChange exportBoundsWrong)

/-- 'clevislaw11.ExportAll': WHATEVER THE INPUT: true; the input reads as it did. -/
def exportAllSpec : ChangeSpec := { name := "exportAll", fn := fun _ => fun
  | [d1, d2, d3] => { results := [.lit (.bool true)], args := [d1, d2, d3] }
  | _ => none }
def exportAllRow : OpenClaim := { program := "ythhjdkcnkdffcaagreat", sum := "a6c1cedc6f3c85aa080a7f226f6264e790581094ca323bd1420b4f630bd4ee68", func := "clevis/clevislaw11.ExportAll", spec := "exportAll", unfollowed := true, recurses := true, apart := false }
def ExportAllSaid : Prop := exportAllRow.holds Tryz.pinned (OpenSpec.ofChange exportAllSpec)

/-- ITS FALSE NEIGHBOUR: 'it returns false'. Refute it at one input. -/
def exportAllWrong : ChangeSpec := { name := "exportAll", fn := fun _ => fun
  | [d1, d2, d3] => { results := [.lit (.bool false)], args := [d1, d2, d3] }
  | _ => none }
def ExportAllWrongFalsely : Prop := exportAllRow.holds Tryz.pinned (OpenSpec.ofChange exportAllWrong)

/-- 'clevislaw11.ExportMeans': WHATEVER THE INPUT: true; the input reads as it did. -/
def exportMeansSpec : ChangeSpec := { name := "exportMeans", fn := fun _ => fun
  | [d1, d2, d3, d4] => { results := [.lit (.bool true)], args := [d1, d2, d3, d4] }
  | _ => none }
def exportMeansRow : OpenClaim := { program := "ythhjdkcnkdffcaagreat", sum := "a6c1cedc6f3c85aa080a7f226f6264e790581094ca323bd1420b4f630bd4ee68", func := "clevis/clevislaw11.ExportMeans", spec := "exportMeans", unfollowed := true, recurses := true, apart := false }
def ExportMeansSaid : Prop := exportMeansRow.holds Tryz.pinned (OpenSpec.ofChange exportMeansSpec)

/-- ITS FALSE NEIGHBOUR: 'it returns false'. Refute it at one input. -/
def exportMeansWrong : ChangeSpec := { name := "exportMeans", fn := fun _ => fun
  | [d1, d2, d3, d4] => { results := [.lit (.bool false)], args := [d1, d2, d3, d4] }
  | _ => none }
def ExportMeansWrongFalsely : Prop := exportMeansRow.holds Tryz.pinned (OpenSpec.ofChange exportMeansWrong)

/-- 'clevislaw11.ExportNone': WHATEVER THE INPUT: true; the input reads as it did. -/
def exportNoneSpec : ChangeSpec := { name := "exportNone", fn := fun _ => fun
  | [] => { results := [.lit (.bool true)], args := [] }
  | _ => none }
def exportNoneRow : OpenClaim := { program := "ythhjdkcnkdffcaagreat", sum := "a6c1cedc6f3c85aa080a7f226f6264e790581094ca323bd1420b4f630bd4ee68", func := "clevis/clevislaw11.ExportNone", spec := "exportNone", unfollowed := true, recurses := true, apart := false }
def ExportNoneSaid : Prop := exportNoneRow.holds Tryz.pinned (OpenSpec.ofChange exportNoneSpec)

/-- ITS FALSE NEIGHBOUR: 'it returns false'. Refute it at one input. -/
def exportNoneWrong : ChangeSpec := { name := "exportNone", fn := fun _ => fun
  | [] => { results := [.lit (.bool false)], args := [] }
  | _ => none }
def ExportNoneWrongFalsely : Prop := exportNoneRow.holds Tryz.pinned (OpenSpec.ofChange exportNoneWrong)

/- THE SECOND FORM. 'bulk': how many values and letters a reading holds, each counted each time it is reached (what is shared counts as often as it is met; a slice's spare places count too). A statement '..UptoSaid' is the law's where the arguments, and the package variables that the reading takes, are together of bulk at most 1048576: NARROWER than '..Said'. Prove '..Said' where nothing that the law and all that it calls make is longer than what came in: it says more and counts as full. Else prove '..UptoSaid'. A law counts once. -/
mutual
def uptoBulk {H : Type} : DataW H → Nat
  | .lit (.string bytes) => bytes.length + 1
  | .lit _ => 1
  | .nil => 1
  | .ptr d => uptoBulk d + 1
  | .slice elems spare => uptoBulkAll elems + uptoBulkAll spare + 1
  | .agg parts => uptoBulkAll parts + 1
  | .iface _ d => uptoBulk d + 1
  | .map entries => uptoBulkEntries entries + 1
  | .held _ => 1
def uptoBulkAll {H : Type} : List (DataW H) → Nat
  | [] => 0
  | d :: r => uptoBulk d + uptoBulkAll r
def uptoBulkEntries {H : Type} : List (Lit × DataW H) → Nat
  | [] => 0
  | x :: r => uptoBulkEntry x + uptoBulkEntries r
def uptoBulkEntry {H : Type} : Lit × DataW H → Nat
  | (.string bytes, d) => bytes.length + uptoBulk d + 1
  | (_, d) => uptoBulk d + 1
 end
def uptoSmall : (H : Type) → List (DataW H) → Bool := fun _ ds => decide (uptoBulkAll ds ≤ 1048576)
def OpenSpec.upto (s : _root_.Go.ChangeSpec) : _root_.Go.OpenSpec := { _root_.Go.OpenSpec.ofChange s with cond := some uptoSmall }

/-- 'clevislaw11.ExportBounds', WHERE WHAT IT READS IS OF BULK AT MOST 1048576: true; the input reads as it did. -/
def exportBoundsUptoRow : OpenClaim := { program := "ythhjdkcnkdffcaagreat", sum := "a6c1cedc6f3c85aa080a7f226f6264e790581094ca323bd1420b4f630bd4ee68", func := "clevis/clevislaw11.ExportBounds", spec := "exportBounds", unfollowed := true, recurses := true, apart := false, narrowed := true }
def ExportBoundsUptoSaid : Prop := exportBoundsUptoRow.holds Tryz.pinned (OpenSpec.upto exportBoundsSpec)

/-- 'clevislaw11.ExportAll', WHERE WHAT IT READS IS OF BULK AT MOST 1048576: true; the input reads as it did. -/
def exportAllUptoRow : OpenClaim := { program := "ythhjdkcnkdffcaagreat", sum := "a6c1cedc6f3c85aa080a7f226f6264e790581094ca323bd1420b4f630bd4ee68", func := "clevis/clevislaw11.ExportAll", spec := "exportAll", unfollowed := true, recurses := true, apart := false, narrowed := true }
def ExportAllUptoSaid : Prop := exportAllUptoRow.holds Tryz.pinned (OpenSpec.upto exportAllSpec)

/-- 'clevislaw11.ExportMeans', WHERE WHAT IT READS IS OF BULK AT MOST 1048576: true; the input reads as it did. -/
def exportMeansUptoRow : OpenClaim := { program := "ythhjdkcnkdffcaagreat", sum := "a6c1cedc6f3c85aa080a7f226f6264e790581094ca323bd1420b4f630bd4ee68", func := "clevis/clevislaw11.ExportMeans", spec := "exportMeans", unfollowed := true, recurses := true, apart := false, narrowed := true }
def ExportMeansUptoSaid : Prop := exportMeansUptoRow.holds Tryz.pinned (OpenSpec.upto exportMeansSpec)

/-- 'clevislaw11.ExportNone', WHERE WHAT IT READS IS OF BULK AT MOST 1048576: true; the input reads as it did. -/
def exportNoneUptoRow : OpenClaim := { program := "ythhjdkcnkdffcaagreat", sum := "a6c1cedc6f3c85aa080a7f226f6264e790581094ca323bd1420b4f630bd4ee68", func := "clevis/clevislaw11.ExportNone", spec := "exportNone", unfollowed := true, recurses := true, apart := false, narrowed := true }
def ExportNoneUptoSaid : Prop := exportNoneUptoRow.holds Tryz.pinned (OpenSpec.upto exportNoneSpec)

end Rows
end Go.Proofs.YthhjdkcnkdffcaaGreat
