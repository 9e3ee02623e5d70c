/-
  DERIVED. GIVEN WITH THE SEED: THE CARDS: each row of YtfccagphnfceiaaGreatDoorRows.lean that lists a variable, with what it lists TIED to the program's text (the seventh form; the later family's looks); each row that meets fmt, with fmt's text TOLD by the authors' own Lean function (tested against real Go, not proved from fmt's source: count such statements apart). THE CARD IS WHAT COUNTS. Prove the row's statement (the work); the ties are given (YtfccagphnfceiaaGreatDoorTie.lean); close each card by the builder's one call (the guide's Derived/Test/ToyasCard.lean, 'card_holds'). Laid BY PROGRAM, IN A SANDBOX (cutbox-door.mjs). By AI agents, Wed Nov 11 2026. No macro, syntax, notation, axiom, sorry.
-/
import Derived.Test.YtfccagphnfceiaaGreatDoorRows
import GoSem.ClaimSeven
namespace Go.Proofs.YtfccagphnfceiaaGreatDoor
namespace Rows

/-- THE TIED CARD OF 'erratalaw44.CommitAnywhere'. -/
def commitAnywhereCard : Claim7 := { stood := { row := commitAnywhereRow, standIns := [], harness := (true, "d5e7eeb3441b8d70ec0efda79bf8baa6a3c8be54a5fd27cd10db4481e9270a88"), looks := true }, kinds := [], alts := [], laidByText := true, laidKinds := [.data, .data, .data, .data, .sentinel, .sentinel], laidTests := true, laidLooks := .later }
def CommitAnywhereCardSaid : Prop := Claim7.holds Tryz.pinned (.plain (OpenSpec.ofChange commitAnywhereSpec)) commitAnywhereCard

/-- THE TIED CARD OF 'erratalaw44.CommitOnce'. -/
def commitOnceCard : Claim7 := { stood := { row := commitOnceRow, standIns := [], harness := (true, "d5e7eeb3441b8d70ec0efda79bf8baa6a3c8be54a5fd27cd10db4481e9270a88"), looks := true }, kinds := [], alts := [], laidByText := true, laidKinds := [.data, .data, .data, .data, .sentinel, .sentinel], laidTests := true, laidLooks := .later }
def CommitOnceCardSaid : Prop := Claim7.holds Tryz.pinned (.plain (OpenSpec.ofChange commitOnceSpec)) commitOnceCard

/-- THE TIED CARD OF 'erratalaw44.CommitReads'. -/
def commitReadsCard : Claim7 := { stood := { row := commitReadsRow, standIns := [], harness := (true, "d5e7eeb3441b8d70ec0efda79bf8baa6a3c8be54a5fd27cd10db4481e9270a88"), looks := true }, kinds := [], alts := [], laidByText := true, laidKinds := [.data, .data, .data, .data, .sentinel, .sentinel], laidTests := true, laidLooks := .later }
def CommitReadsCardSaid : Prop := Claim7.holds Tryz.pinned (.plain (OpenSpec.ofChange commitReadsSpec)) commitReadsCard

/-- THE TIED CARD OF 'erratalaw44.CommitAborts'. -/
def commitAbortsCard : Claim7 := { stood := { row := commitAbortsRow, standIns := [], harness := (true, "d5e7eeb3441b8d70ec0efda79bf8baa6a3c8be54a5fd27cd10db4481e9270a88"), looks := true }, kinds := [], alts := [], laidByText := true, laidKinds := [.data, .data, .data, .data, .sentinel, .sentinel], laidTests := true, laidLooks := .later }
def CommitAbortsCardSaid : Prop := Claim7.holds Tryz.pinned (.plain (OpenSpec.ofChange commitAbortsSpec)) commitAbortsCard

/-- THE TIED CARD OF 'erratalaw44.CommitTells'. -/
def commitTellsCard : Claim7 := { stood := { row := commitTellsRow, standIns := [], harness := (true, "d5e7eeb3441b8d70ec0efda79bf8baa6a3c8be54a5fd27cd10db4481e9270a88"), looks := true }, kinds := [], alts := [], laidByText := true, laidKinds := [.data, .data, .data, .data, .sentinel, .sentinel], laidTests := true, laidLooks := .later }
def CommitTellsCardSaid : Prop := Claim7.holds Tryz.pinned (.plain (OpenSpec.ofChange commitTellsSpec)) commitTellsCard

/-- THE SECOND FORM's CARD OF 'erratalaw44.CommitAnywhere'. -/
def commitAnywhereUptoCard : Claim7 := { stood := { row := commitAnywhereUptoRow, standIns := [], harness := (true, "d5e7eeb3441b8d70ec0efda79bf8baa6a3c8be54a5fd27cd10db4481e9270a88"), looks := true }, kinds := [], alts := [], laidByText := true, laidKinds := [.data, .data, .data, .data, .sentinel, .sentinel], laidTests := true, laidLooks := .later }
def CommitAnywhereUptoCardSaid : Prop := Claim7.holds Tryz.pinned (.plain (OpenSpec.upto commitAnywhereSpec)) commitAnywhereUptoCard

/-- THE SECOND FORM's CARD OF 'erratalaw44.CommitOnce'. -/
def commitOnceUptoCard : Claim7 := { stood := { row := commitOnceUptoRow, standIns := [], harness := (true, "d5e7eeb3441b8d70ec0efda79bf8baa6a3c8be54a5fd27cd10db4481e9270a88"), looks := true }, kinds := [], alts := [], laidByText := true, laidKinds := [.data, .data, .data, .data, .sentinel, .sentinel], laidTests := true, laidLooks := .later }
def CommitOnceUptoCardSaid : Prop := Claim7.holds Tryz.pinned (.plain (OpenSpec.upto commitOnceSpec)) commitOnceUptoCard

/-- THE SECOND FORM's CARD OF 'erratalaw44.CommitReads'. -/
def commitReadsUptoCard : Claim7 := { stood := { row := commitReadsUptoRow, standIns := [], harness := (true, "d5e7eeb3441b8d70ec0efda79bf8baa6a3c8be54a5fd27cd10db4481e9270a88"), looks := true }, kinds := [], alts := [], laidByText := true, laidKinds := [.data, .data, .data, .data, .sentinel, .sentinel], laidTests := true, laidLooks := .later }
def CommitReadsUptoCardSaid : Prop := Claim7.holds Tryz.pinned (.plain (OpenSpec.upto commitReadsSpec)) commitReadsUptoCard

/-- THE SECOND FORM's CARD OF 'erratalaw44.CommitAborts'. -/
def commitAbortsUptoCard : Claim7 := { stood := { row := commitAbortsUptoRow, standIns := [], harness := (true, "d5e7eeb3441b8d70ec0efda79bf8baa6a3c8be54a5fd27cd10db4481e9270a88"), looks := true }, kinds := [], alts := [], laidByText := true, laidKinds := [.data, .data, .data, .data, .sentinel, .sentinel], laidTests := true, laidLooks := .later }
def CommitAbortsUptoCardSaid : Prop := Claim7.holds Tryz.pinned (.plain (OpenSpec.upto commitAbortsSpec)) commitAbortsUptoCard

/-- THE SECOND FORM's CARD OF 'erratalaw44.CommitTells'. -/
def commitTellsUptoCard : Claim7 := { stood := { row := commitTellsUptoRow, standIns := [], harness := (true, "d5e7eeb3441b8d70ec0efda79bf8baa6a3c8be54a5fd27cd10db4481e9270a88"), looks := true }, kinds := [], alts := [], laidByText := true, laidKinds := [.data, .data, .data, .data, .sentinel, .sentinel], laidTests := true, laidLooks := .later }
def CommitTellsUptoCardSaid : Prop := Claim7.holds Tryz.pinned (.plain (OpenSpec.upto commitTellsSpec)) commitTellsUptoCard
end Rows
end Go.Proofs.YtfccagphnfceiaaGreatDoor
