/-
  DERIVED. GIVEN WITH THE SEED: THE CARDS: each row of YtnlkemjhgdbfkaaGreatDoorRows.lean that lists a variable, with what it lists TIED to the program's text (the seventh form; the later family's looks); each row that meets fmt, with fmt's text TOLD by the authors' own Lean function (tested against real Go, not proved from fmt's source: count such statements apart). THE CARD IS WHAT COUNTS. Prove the row's statement (the work); the ties are given (YtnlkemjhgdbfkaaGreatDoorTie.lean); close each card by the builder's one call (the guide's Derived/Test/ToyasCard.lean, 'card_holds'). Laid BY PROGRAM, IN A SANDBOX (cutbox-door.mjs). By AI agents, Wed Nov 11 2026. No macro, syntax, notation, axiom, sorry.
-/
import Derived.Test.YtnlkemjhgdbfkaaGreatDoorRows
import GoSem.ClaimSeven
namespace Go.Proofs.YtnlkemjhgdbfkaaGreatDoor
namespace Rows

/-- THE TIED CARD OF 'erratatop.TopCommits'. -/
def topCommitsCard : Claim7 := { stood := { row := topCommitsRow, standIns := [], harness := (true, "e11cca27ef0699d5a4d0175982e8dc62538db584c9baa375c3ad9d53e86ea1e0"), looks := true }, kinds := [], alts := [], laidByText := true, laidKinds := [.data, .data, .data, .data, .sentinel, .sentinel], laidTests := true, laidLooks := .later }
def TopCommitsCardSaid : Prop := Claim7.holds Tryz.pinned (.plain (OpenSpec.ofChange topCommitsSpec)) topCommitsCard

/-- THE TIED CARD OF 'erratatop.TopClosed'. -/
def topClosedCard : Claim7 := { stood := { row := topClosedRow, standIns := [], harness := (true, "e11cca27ef0699d5a4d0175982e8dc62538db584c9baa375c3ad9d53e86ea1e0"), looks := true }, kinds := [], alts := [], laidByText := true, laidKinds := [.data, .data, .data, .data, .sentinel, .sentinel], laidTests := true, laidLooks := .later }
def TopClosedCardSaid : Prop := Claim7.holds Tryz.pinned (.plain (OpenSpec.ofChange topClosedSpec)) topClosedCard

/-- THE TIED CARD OF 'erratalaw39.CheckpointCollects'. -/
def checkpointCollectsCard : Claim7 := { stood := { row := checkpointCollectsRow, standIns := [], harness := (true, "e11cca27ef0699d5a4d0175982e8dc62538db584c9baa375c3ad9d53e86ea1e0"), looks := true }, kinds := [], alts := [], laidByText := true, laidKinds := [.data, .data, .data, .sentinel, .sentinel], laidTests := true, laidLooks := .later }
def CheckpointCollectsCardSaid : Prop := Claim7.holds Tryz.pinned (.plain (OpenSpec.ofChange checkpointCollectsSpec)) checkpointCollectsCard

/-- THE TIED CARD OF 'erratalaw09.GroupSplit'. -/
def groupSplitCard : Claim7 := { stood := { row := groupSplitRow, standIns := [], harness := (true, "e11cca27ef0699d5a4d0175982e8dc62538db584c9baa375c3ad9d53e86ea1e0"), looks := true }, kinds := [], alts := [], laidByText := true, laidKinds := [.data, .data, .data, .data, .sentinel, .sentinel], laidTests := true, laidLooks := .later }
def GroupSplitCardSaid : Prop := Claim7.holds Tryz.pinned (.plain (OpenSpec.ofChange groupSplitSpec)) groupSplitCard

/-- THE TIED CARD OF 'erratalaw09.GroupAgrees'. -/
def groupAgreesCard : Claim7 := { stood := { row := groupAgreesRow, standIns := [], harness := (true, "e11cca27ef0699d5a4d0175982e8dc62538db584c9baa375c3ad9d53e86ea1e0"), looks := true }, kinds := [], alts := [], laidByText := true, laidKinds := [.data, .data, .data, .data, .sentinel, .sentinel], laidTests := true, laidLooks := .later }
def GroupAgreesCardSaid : Prop := Claim7.holds Tryz.pinned (.plain (OpenSpec.ofChange groupAgreesSpec)) groupAgreesCard

/-- THE TIED CARD OF 'erratalaw09.GroupLeads'. -/
def groupLeadsCard : Claim7 := { stood := { row := groupLeadsRow, standIns := [], harness := (true, "e11cca27ef0699d5a4d0175982e8dc62538db584c9baa375c3ad9d53e86ea1e0"), looks := true }, kinds := [], alts := [], laidByText := true, laidKinds := [.data, .data, .data, .data, .sentinel, .sentinel], laidTests := true, laidLooks := .later }
def GroupLeadsCardSaid : Prop := Claim7.holds Tryz.pinned (.plain (OpenSpec.ofChange groupLeadsSpec)) groupLeadsCard

/-- THE TIED CARD OF 'erratalaw09.GroupTells'. -/
def groupTellsCard : Claim7 := { stood := { row := groupTellsRow, standIns := [], harness := (true, "e11cca27ef0699d5a4d0175982e8dc62538db584c9baa375c3ad9d53e86ea1e0"), looks := true }, kinds := [], alts := [], laidByText := true, laidKinds := [.data, .data, .data, .data, .sentinel, .sentinel], laidTests := true, laidLooks := .later }
def GroupTellsCardSaid : Prop := Claim7.holds Tryz.pinned (.plain (OpenSpec.ofChange groupTellsSpec)) groupTellsCard

/-- THE TIED CARD OF 'erratalaw09.GroupRestarts'. -/
def groupRestartsCard : Claim7 := { stood := { row := groupRestartsRow, standIns := [], harness := (true, "e11cca27ef0699d5a4d0175982e8dc62538db584c9baa375c3ad9d53e86ea1e0"), looks := true }, kinds := [], alts := [], laidByText := true, laidKinds := [.data, .data, .data, .data, .sentinel, .sentinel], laidTests := true, laidLooks := .later }
def GroupRestartsCardSaid : Prop := Claim7.holds Tryz.pinned (.plain (OpenSpec.ofChange groupRestartsSpec)) groupRestartsCard

/-- THE SECOND FORM's CARD OF 'erratatop.TopCommits'. -/
def topCommitsUptoCard : Claim7 := { stood := { row := topCommitsUptoRow, standIns := [], harness := (true, "e11cca27ef0699d5a4d0175982e8dc62538db584c9baa375c3ad9d53e86ea1e0"), looks := true }, kinds := [], alts := [], laidByText := true, laidKinds := [.data, .data, .data, .data, .sentinel, .sentinel], laidTests := true, laidLooks := .later }
def TopCommitsUptoCardSaid : Prop := Claim7.holds Tryz.pinned (.plain (OpenSpec.upto topCommitsSpec)) topCommitsUptoCard

/-- THE SECOND FORM's CARD OF 'erratatop.TopClosed'. -/
def topClosedUptoCard : Claim7 := { stood := { row := topClosedUptoRow, standIns := [], harness := (true, "e11cca27ef0699d5a4d0175982e8dc62538db584c9baa375c3ad9d53e86ea1e0"), looks := true }, kinds := [], alts := [], laidByText := true, laidKinds := [.data, .data, .data, .data, .sentinel, .sentinel], laidTests := true, laidLooks := .later }
def TopClosedUptoCardSaid : Prop := Claim7.holds Tryz.pinned (.plain (OpenSpec.upto topClosedSpec)) topClosedUptoCard

/-- THE SECOND FORM's CARD OF 'erratalaw39.CheckpointCollects'. -/
def checkpointCollectsUptoCard : Claim7 := { stood := { row := checkpointCollectsUptoRow, standIns := [], harness := (true, "e11cca27ef0699d5a4d0175982e8dc62538db584c9baa375c3ad9d53e86ea1e0"), looks := true }, kinds := [], alts := [], laidByText := true, laidKinds := [.data, .data, .data, .sentinel, .sentinel], laidTests := true, laidLooks := .later }
def CheckpointCollectsUptoCardSaid : Prop := Claim7.holds Tryz.pinned (.plain (OpenSpec.upto checkpointCollectsSpec)) checkpointCollectsUptoCard

/-- THE SECOND FORM's CARD OF 'erratalaw09.GroupSplit'. -/
def groupSplitUptoCard : Claim7 := { stood := { row := groupSplitUptoRow, standIns := [], harness := (true, "e11cca27ef0699d5a4d0175982e8dc62538db584c9baa375c3ad9d53e86ea1e0"), looks := true }, kinds := [], alts := [], laidByText := true, laidKinds := [.data, .data, .data, .data, .sentinel, .sentinel], laidTests := true, laidLooks := .later }
def GroupSplitUptoCardSaid : Prop := Claim7.holds Tryz.pinned (.plain (OpenSpec.upto groupSplitSpec)) groupSplitUptoCard

/-- THE SECOND FORM's CARD OF 'erratalaw09.GroupAgrees'. -/
def groupAgreesUptoCard : Claim7 := { stood := { row := groupAgreesUptoRow, standIns := [], harness := (true, "e11cca27ef0699d5a4d0175982e8dc62538db584c9baa375c3ad9d53e86ea1e0"), looks := true }, kinds := [], alts := [], laidByText := true, laidKinds := [.data, .data, .data, .data, .sentinel, .sentinel], laidTests := true, laidLooks := .later }
def GroupAgreesUptoCardSaid : Prop := Claim7.holds Tryz.pinned (.plain (OpenSpec.upto groupAgreesSpec)) groupAgreesUptoCard

/-- THE SECOND FORM's CARD OF 'erratalaw09.GroupLeads'. -/
def groupLeadsUptoCard : Claim7 := { stood := { row := groupLeadsUptoRow, standIns := [], harness := (true, "e11cca27ef0699d5a4d0175982e8dc62538db584c9baa375c3ad9d53e86ea1e0"), looks := true }, kinds := [], alts := [], laidByText := true, laidKinds := [.data, .data, .data, .data, .sentinel, .sentinel], laidTests := true, laidLooks := .later }
def GroupLeadsUptoCardSaid : Prop := Claim7.holds Tryz.pinned (.plain (OpenSpec.upto groupLeadsSpec)) groupLeadsUptoCard

/-- THE SECOND FORM's CARD OF 'erratalaw09.GroupTells'. -/
def groupTellsUptoCard : Claim7 := { stood := { row := groupTellsUptoRow, standIns := [], harness := (true, "e11cca27ef0699d5a4d0175982e8dc62538db584c9baa375c3ad9d53e86ea1e0"), looks := true }, kinds := [], alts := [], laidByText := true, laidKinds := [.data, .data, .data, .data, .sentinel, .sentinel], laidTests := true, laidLooks := .later }
def GroupTellsUptoCardSaid : Prop := Claim7.holds Tryz.pinned (.plain (OpenSpec.upto groupTellsSpec)) groupTellsUptoCard

/-- THE SECOND FORM's CARD OF 'erratalaw09.GroupRestarts'. -/
def groupRestartsUptoCard : Claim7 := { stood := { row := groupRestartsUptoRow, standIns := [], harness := (true, "e11cca27ef0699d5a4d0175982e8dc62538db584c9baa375c3ad9d53e86ea1e0"), looks := true }, kinds := [], alts := [], laidByText := true, laidKinds := [.data, .data, .data, .data, .sentinel, .sentinel], laidTests := true, laidLooks := .later }
def GroupRestartsUptoCardSaid : Prop := Claim7.holds Tryz.pinned (.plain (OpenSpec.upto groupRestartsSpec)) groupRestartsUptoCard
end Rows
end Go.Proofs.YtnlkemjhgdbfkaaGreatDoor
