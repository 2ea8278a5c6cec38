/-
  DERIVED. GIVEN WITH THE SEED: THE CARDS: each row of YtfkpbgookilhjaaGreatDoorRows.lean that lists a variable, with what it lists TIED to the program's text (the seventh form; the later family's looks); each row that meets fmt, with fmt's text TOLD by the authors' own Lean function (tested against real Go, not proved from fmt's source: count such statements apart). THE CARD IS WHAT COUNTS. Prove the row's statement (the work); the ties are given (YtfkpbgookilhjaaGreatDoorTie.lean); close each card by the builder's one call (the guide's Derived/Test/ToyasCard.lean, 'card_holds'). Laid BY PROGRAM, IN A SANDBOX (cutbox-door.mjs). By AI agents, Wed Nov 11 2026. No macro, syntax, notation, axiom, sorry.
-/
import Derived.Test.YtfkpbgookilhjaaGreatDoorRows
import GoSem.ClaimSeven
namespace Go.Proofs.YtfkpbgookilhjaaGreatDoor
namespace Rows

/-- THE TIED CARD OF 'clevislaw26.ScriptJobs'. -/
def scriptJobsCard : Claim7 := { stood := { row := scriptJobsRow, standIns := [], harness := (true, "35bd0de36451d3e66ee9f48b0f08ee93d341ee92d60f80b2858adfc862cc7bf1"), looks := true }, kinds := [], alts := [], laidByText := true, laidKinds := [.handle], laidTests := true, laidLooks := .later }
def ScriptJobsCardSaid : Prop := Claim7.holds Tryz.pinned (.plain (OpenSpec.ofChange scriptJobsSpec)) scriptJobsCard

/-- THE TIED CARD OF 'clevislaw26.ScriptBounds'. -/
def scriptBoundsCard : Claim7 := { stood := { row := scriptBoundsRow, standIns := [], harness := (true, "35bd0de36451d3e66ee9f48b0f08ee93d341ee92d60f80b2858adfc862cc7bf1"), looks := true }, kinds := [], alts := [], laidByText := true, laidKinds := [.handle], laidTests := true, laidLooks := .later }
def ScriptBoundsCardSaid : Prop := Claim7.holds Tryz.pinned (.plain (OpenSpec.ofChange scriptBoundsSpec)) scriptBoundsCard

/-- THE TIED CARD OF 'clevislaw26.ScriptTells'. -/
def scriptTellsCard : Claim7 := { stood := { row := scriptTellsRow, standIns := [], harness := (true, "35bd0de36451d3e66ee9f48b0f08ee93d341ee92d60f80b2858adfc862cc7bf1"), looks := true }, kinds := [], alts := [], laidByText := true, laidKinds := [.handle], laidTests := true, laidLooks := .later }
def ScriptTellsCardSaid : Prop := Claim7.holds Tryz.pinned (.plain (OpenSpec.ofChange scriptTellsSpec)) scriptTellsCard

/-- THE SECOND FORM's CARD OF 'clevislaw26.ScriptJobs'. -/
def scriptJobsUptoCard : Claim7 := { stood := { row := scriptJobsUptoRow, standIns := [], harness := (true, "35bd0de36451d3e66ee9f48b0f08ee93d341ee92d60f80b2858adfc862cc7bf1"), looks := true }, kinds := [], alts := [], laidByText := true, laidKinds := [.handle], laidTests := true, laidLooks := .later }
def ScriptJobsUptoCardSaid : Prop := Claim7.holds Tryz.pinned (.plain (OpenSpec.upto scriptJobsSpec)) scriptJobsUptoCard

/-- THE SECOND FORM's CARD OF 'clevislaw26.ScriptBounds'. -/
def scriptBoundsUptoCard : Claim7 := { stood := { row := scriptBoundsUptoRow, standIns := [], harness := (true, "35bd0de36451d3e66ee9f48b0f08ee93d341ee92d60f80b2858adfc862cc7bf1"), looks := true }, kinds := [], alts := [], laidByText := true, laidKinds := [.handle], laidTests := true, laidLooks := .later }
def ScriptBoundsUptoCardSaid : Prop := Claim7.holds Tryz.pinned (.plain (OpenSpec.upto scriptBoundsSpec)) scriptBoundsUptoCard

/-- THE SECOND FORM's CARD OF 'clevislaw26.ScriptTells'. -/
def scriptTellsUptoCard : Claim7 := { stood := { row := scriptTellsUptoRow, standIns := [], harness := (true, "35bd0de36451d3e66ee9f48b0f08ee93d341ee92d60f80b2858adfc862cc7bf1"), looks := true }, kinds := [], alts := [], laidByText := true, laidKinds := [.handle], laidTests := true, laidLooks := .later }
def ScriptTellsUptoCardSaid : Prop := Claim7.holds Tryz.pinned (.plain (OpenSpec.upto scriptTellsSpec)) scriptTellsUptoCard
end Rows
end Go.Proofs.YtfkpbgookilhjaaGreatDoor
