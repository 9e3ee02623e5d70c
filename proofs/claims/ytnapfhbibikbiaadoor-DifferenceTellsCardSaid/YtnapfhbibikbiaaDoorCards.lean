/-
  DERIVED. GIVEN WITH THE SEED: THE CARDS: each row of YtnapfhbibikbiaaDoorRows.lean that lists a variable, with what it lists TIED to the program's text (the seventh form; the later family's looks); each row that meets fmt, with fmt's text TOLD by the authors' own Lean function (tested against real Go, not proved from fmt's source: count such statements apart). THE CARD IS WHAT COUNTS. Prove the row's statement (the work); the ties are given (YtnapfhbibikbiaaDoorTie.lean); close each card by the builder's one call (the guide's Derived/Test/ToyasCard.lean, 'card_holds'). Laid BY PROGRAM, IN A SANDBOX (cutbox-door.mjs). By AI agents, Wed Nov 11 2026. No macro, syntax, notation, axiom, sorry.
-/
import Derived.Test.YtnapfhbibikbiaaDoorRows
import GoSem.ClaimSeven
namespace Go.Proofs.YtnapfhbibikbiaaDoor
namespace Rows

/-- THE TIED CARD OF 'erratalaw42.DifferenceTells'. -/
def differenceTellsCard : Claim7 := { stood := { row := differenceTellsRow, standIns := [], harness := (true, "2c592663f0d4fc6850ccf78e3d97e24bd40a339de96429ded042dfb25384554c"), looks := false }, kinds := [], alts := [], laidByText := true, laidKinds := [.data, .data, .data], laidTests := true, laidLooks := .later }
def DifferenceTellsCardSaid : Prop := Claim7.holds Tryd.pinned (.plain (OpenSpec.ofChange differenceTellsSpec)) differenceTellsCard

/-- THE TIED CARD OF 'erratalaw28.DeltaSplits'. -/
def deltaSplitsCard : Claim7 := { stood := { row := deltaSplitsRow, standIns := [], harness := (true, "2c592663f0d4fc6850ccf78e3d97e24bd40a339de96429ded042dfb25384554c"), looks := false }, kinds := [], alts := [], laidByText := true, laidKinds := [.data, .data, .data], laidTests := true, laidLooks := .later }
def DeltaSplitsCardSaid : Prop := Claim7.holds Tryd.pinned (.plain (OpenSpec.ofChange deltaSplitsSpec)) deltaSplitsCard

/-- THE TIED CARD OF 'erratalaw42.DifferenceParts'. -/
def differencePartsCard : Claim7 := { stood := { row := differencePartsRow, standIns := [], harness := (true, "2c592663f0d4fc6850ccf78e3d97e24bd40a339de96429ded042dfb25384554c"), looks := false }, kinds := [], alts := [], laidByText := true, laidKinds := [.data, .data, .data], laidTests := true, laidLooks := .later }
def DifferencePartsCardSaid : Prop := Claim7.holds Tryd.pinned (.plain (OpenSpec.ofChange differencePartsSpec)) differencePartsCard

/-- THE TIED CARD OF 'erratalaw28.DeltaCounts'. -/
def deltaCountsCard : Claim7 := { stood := { row := deltaCountsRow, standIns := [], harness := (true, "2c592663f0d4fc6850ccf78e3d97e24bd40a339de96429ded042dfb25384554c"), looks := false }, kinds := [], alts := [], laidByText := true, laidKinds := [.data, .data, .data], laidTests := true, laidLooks := .later }
def DeltaCountsCardSaid : Prop := Claim7.holds Tryd.pinned (.plain (OpenSpec.ofChange deltaCountsSpec)) deltaCountsCard

/-- THE TIED CARD OF 'erratalaw28.DeltaGroup'. -/
def deltaGroupCard : Claim7 := { stood := { row := deltaGroupRow, standIns := [], harness := (true, "2c592663f0d4fc6850ccf78e3d97e24bd40a339de96429ded042dfb25384554c"), looks := false }, kinds := [], alts := [], laidByText := true, laidKinds := [.data, .data, .data], laidTests := true, laidLooks := .later }
def DeltaGroupCardSaid : Prop := Claim7.holds Tryd.pinned (.plain (OpenSpec.ofChange deltaGroupSpec)) deltaGroupCard

/-- THE TIED CARD OF 'erratalaw28.DeltaTells'. -/
def deltaTellsCard : Claim7 := { stood := { row := deltaTellsRow, standIns := [], harness := (true, "2c592663f0d4fc6850ccf78e3d97e24bd40a339de96429ded042dfb25384554c"), looks := false }, kinds := [], alts := [], laidByText := true, laidKinds := [.data, .data, .data], laidTests := true, laidLooks := .later }
def DeltaTellsCardSaid : Prop := Claim7.holds Tryd.pinned (.plain (OpenSpec.ofChange deltaTellsSpec)) deltaTellsCard

/-- THE SECOND FORM's CARD OF 'erratalaw42.DifferenceTells'. -/
def differenceTellsUptoCard : Claim7 := { stood := { row := differenceTellsUptoRow, standIns := [], harness := (true, "2c592663f0d4fc6850ccf78e3d97e24bd40a339de96429ded042dfb25384554c"), looks := false }, kinds := [], alts := [], laidByText := true, laidKinds := [.data, .data, .data], laidTests := true, laidLooks := .later }
def DifferenceTellsUptoCardSaid : Prop := Claim7.holds Tryd.pinned (.plain (OpenSpec.upto differenceTellsSpec)) differenceTellsUptoCard

/-- THE SECOND FORM's CARD OF 'erratalaw28.DeltaSplits'. -/
def deltaSplitsUptoCard : Claim7 := { stood := { row := deltaSplitsUptoRow, standIns := [], harness := (true, "2c592663f0d4fc6850ccf78e3d97e24bd40a339de96429ded042dfb25384554c"), looks := false }, kinds := [], alts := [], laidByText := true, laidKinds := [.data, .data, .data], laidTests := true, laidLooks := .later }
def DeltaSplitsUptoCardSaid : Prop := Claim7.holds Tryd.pinned (.plain (OpenSpec.upto deltaSplitsSpec)) deltaSplitsUptoCard

/-- THE SECOND FORM's CARD OF 'erratalaw42.DifferenceParts'. -/
def differencePartsUptoCard : Claim7 := { stood := { row := differencePartsUptoRow, standIns := [], harness := (true, "2c592663f0d4fc6850ccf78e3d97e24bd40a339de96429ded042dfb25384554c"), looks := false }, kinds := [], alts := [], laidByText := true, laidKinds := [.data, .data, .data], laidTests := true, laidLooks := .later }
def DifferencePartsUptoCardSaid : Prop := Claim7.holds Tryd.pinned (.plain (OpenSpec.upto differencePartsSpec)) differencePartsUptoCard

/-- THE SECOND FORM's CARD OF 'erratalaw28.DeltaCounts'. -/
def deltaCountsUptoCard : Claim7 := { stood := { row := deltaCountsUptoRow, standIns := [], harness := (true, "2c592663f0d4fc6850ccf78e3d97e24bd40a339de96429ded042dfb25384554c"), looks := false }, kinds := [], alts := [], laidByText := true, laidKinds := [.data, .data, .data], laidTests := true, laidLooks := .later }
def DeltaCountsUptoCardSaid : Prop := Claim7.holds Tryd.pinned (.plain (OpenSpec.upto deltaCountsSpec)) deltaCountsUptoCard

/-- THE SECOND FORM's CARD OF 'erratalaw28.DeltaGroup'. -/
def deltaGroupUptoCard : Claim7 := { stood := { row := deltaGroupUptoRow, standIns := [], harness := (true, "2c592663f0d4fc6850ccf78e3d97e24bd40a339de96429ded042dfb25384554c"), looks := false }, kinds := [], alts := [], laidByText := true, laidKinds := [.data, .data, .data], laidTests := true, laidLooks := .later }
def DeltaGroupUptoCardSaid : Prop := Claim7.holds Tryd.pinned (.plain (OpenSpec.upto deltaGroupSpec)) deltaGroupUptoCard

/-- THE SECOND FORM's CARD OF 'erratalaw28.DeltaTells'. -/
def deltaTellsUptoCard : Claim7 := { stood := { row := deltaTellsUptoRow, standIns := [], harness := (true, "2c592663f0d4fc6850ccf78e3d97e24bd40a339de96429ded042dfb25384554c"), looks := false }, kinds := [], alts := [], laidByText := true, laidKinds := [.data, .data, .data], laidTests := true, laidLooks := .later }
def DeltaTellsUptoCardSaid : Prop := Claim7.holds Tryd.pinned (.plain (OpenSpec.upto deltaTellsSpec)) deltaTellsUptoCard
end Rows
end Go.Proofs.YtnapfhbibikbiaaDoor
