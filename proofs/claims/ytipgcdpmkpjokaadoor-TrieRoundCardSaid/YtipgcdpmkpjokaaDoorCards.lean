/-
  DERIVED. GIVEN WITH THE SEED: THE CARDS: each row of YtipgcdpmkpjokaaDoorRows.lean that lists a variable, with what it lists TIED to the program's text (the seventh form; the later family's looks); each row that meets fmt, with fmt's text TOLD by the authors' own Lean function (tested against real Go, not proved from fmt's source: count such statements apart). THE CARD IS WHAT COUNTS. Prove the row's statement (the work); the ties are given (YtipgcdpmkpjokaaDoorTie.lean); close each card by the builder's one call (the guide's Derived/Test/ToyasCard.lean, 'card_holds'). Laid BY PROGRAM, IN A SANDBOX (cutbox-door.mjs). By AI agents, Wed Nov 11 2026. No macro, syntax, notation, axiom, sorry.
-/
import Derived.Test.YtipgcdpmkpjokaaDoorRows
import GoSem.ClaimSeven
namespace Go.Proofs.YtipgcdpmkpjokaaDoor
namespace Rows

/-- THE TIED CARD OF 'clevislaw09.TrieMay'. -/
def trieMayCard : Claim7 := { stood := { row := trieMayRow, standIns := [], harness := (true, "c63e98ebcaa9f0d1e38a17ed9a89ba94d04a2f4f767d84ede87b4a60314091b2"), looks := true }, kinds := [], alts := [], laidByText := true, laidKinds := [.handle], laidTests := true, laidLooks := .later }
def TrieMayCardSaid : Prop := Claim7.holds Tryd.pinned (.plain (OpenSpec.ofChange trieMaySpec)) trieMayCard

/-- THE TIED CARD OF 'clevislaw09.TrieReads'. -/
def trieReadsCard : Claim7 := { stood := { row := trieReadsRow, standIns := [], harness := (true, "c63e98ebcaa9f0d1e38a17ed9a89ba94d04a2f4f767d84ede87b4a60314091b2"), looks := true }, kinds := [], alts := [], laidByText := true, laidKinds := [.handle], laidTests := true, laidLooks := .later }
def TrieReadsCardSaid : Prop := Claim7.holds Tryd.pinned (.plain (OpenSpec.ofChange trieReadsSpec)) trieReadsCard

/-- THE TIED CARD OF 'clevislaw09.TrieFinds'. -/
def trieFindsCard : Claim7 := { stood := { row := trieFindsRow, standIns := [], harness := (true, "c63e98ebcaa9f0d1e38a17ed9a89ba94d04a2f4f767d84ede87b4a60314091b2"), looks := true }, kinds := [], alts := [], laidByText := true, laidKinds := [.handle], laidTests := true, laidLooks := .later }
def TrieFindsCardSaid : Prop := Claim7.holds Tryd.pinned (.plain (OpenSpec.ofChange trieFindsSpec)) trieFindsCard

/-- THE TIED CARD OF 'clevislaw09.TrieRound'. -/
def trieRoundCard : Claim7 := { stood := { row := trieRoundRow, standIns := [], harness := (true, "c63e98ebcaa9f0d1e38a17ed9a89ba94d04a2f4f767d84ede87b4a60314091b2"), looks := true }, kinds := [], alts := [], laidByText := true, laidKinds := [.handle], laidTests := true, laidLooks := .later }
def TrieRoundCardSaid : Prop := Claim7.holds Tryd.pinned (.plain (OpenSpec.ofChange trieRoundSpec)) trieRoundCard

/-- THE SECOND FORM's CARD OF 'clevislaw09.TrieMay'. -/
def trieMayUptoCard : Claim7 := { stood := { row := trieMayUptoRow, standIns := [], harness := (true, "c63e98ebcaa9f0d1e38a17ed9a89ba94d04a2f4f767d84ede87b4a60314091b2"), looks := true }, kinds := [], alts := [], laidByText := true, laidKinds := [.handle], laidTests := true, laidLooks := .later }
def TrieMayUptoCardSaid : Prop := Claim7.holds Tryd.pinned (.plain (OpenSpec.upto trieMaySpec)) trieMayUptoCard

/-- THE SECOND FORM's CARD OF 'clevislaw09.TrieReads'. -/
def trieReadsUptoCard : Claim7 := { stood := { row := trieReadsUptoRow, standIns := [], harness := (true, "c63e98ebcaa9f0d1e38a17ed9a89ba94d04a2f4f767d84ede87b4a60314091b2"), looks := true }, kinds := [], alts := [], laidByText := true, laidKinds := [.handle], laidTests := true, laidLooks := .later }
def TrieReadsUptoCardSaid : Prop := Claim7.holds Tryd.pinned (.plain (OpenSpec.upto trieReadsSpec)) trieReadsUptoCard

/-- THE SECOND FORM's CARD OF 'clevislaw09.TrieFinds'. -/
def trieFindsUptoCard : Claim7 := { stood := { row := trieFindsUptoRow, standIns := [], harness := (true, "c63e98ebcaa9f0d1e38a17ed9a89ba94d04a2f4f767d84ede87b4a60314091b2"), looks := true }, kinds := [], alts := [], laidByText := true, laidKinds := [.handle], laidTests := true, laidLooks := .later }
def TrieFindsUptoCardSaid : Prop := Claim7.holds Tryd.pinned (.plain (OpenSpec.upto trieFindsSpec)) trieFindsUptoCard

/-- THE SECOND FORM's CARD OF 'clevislaw09.TrieRound'. -/
def trieRoundUptoCard : Claim7 := { stood := { row := trieRoundUptoRow, standIns := [], harness := (true, "c63e98ebcaa9f0d1e38a17ed9a89ba94d04a2f4f767d84ede87b4a60314091b2"), looks := true }, kinds := [], alts := [], laidByText := true, laidKinds := [.handle], laidTests := true, laidLooks := .later }
def TrieRoundUptoCardSaid : Prop := Claim7.holds Tryd.pinned (.plain (OpenSpec.upto trieRoundSpec)) trieRoundUptoCard
end Rows
end Go.Proofs.YtipgcdpmkpjokaaDoor
