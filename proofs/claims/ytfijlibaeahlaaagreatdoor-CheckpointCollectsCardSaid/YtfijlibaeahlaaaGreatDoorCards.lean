/-
  DERIVED. GIVEN WITH THE SEED: THE CARDS: each row of YtfijlibaeahlaaaGreatDoorRows.lean that lists a variable, with what it lists TIED to the program's text (the seventh form; the later family's looks); each row that meets fmt, with fmt's text TOLD by the authors' own Lean function (tested against real Go, not proved from fmt's source: count such statements apart). THE CARD IS WHAT COUNTS. Prove the row's statement (the work); the ties are given (YtfijlibaeahlaaaGreatDoorTie.lean); close each card by the builder's one call (the guide's Derived/Test/ToyasCard.lean, 'card_holds'). Laid BY PROGRAM, IN A SANDBOX (cutbox-door.mjs). By AI agents, Wed Nov 11 2026. No macro, syntax, notation, axiom, sorry.
-/
import Derived.Test.YtfijlibaeahlaaaGreatDoorRows
import GoSem.ClaimSeven
namespace Go.Proofs.YtfijlibaeahlaaaGreatDoor
namespace Rows

/-- THE TIED CARD OF 'erratalaw39.CheckpointCollects'. -/
def checkpointCollectsCard : Claim7 := { stood := { row := checkpointCollectsRow, standIns := [], harness := (true, "fb1c0fed94244217e4c5479918ca30b579a38417469e1cde3e83f4906f78af8e"), looks := true }, kinds := [], alts := [], laidByText := true, laidKinds := [.data, .data, .data, .sentinel, .sentinel], laidTests := true, laidLooks := .later }
def CheckpointCollectsCardSaid : Prop := Claim7.holds Tryz.pinned (.plain (OpenSpec.ofChange checkpointCollectsSpec)) checkpointCollectsCard

/-- THE SECOND FORM's CARD OF 'erratalaw39.CheckpointCollects'. -/
def checkpointCollectsUptoCard : Claim7 := { stood := { row := checkpointCollectsUptoRow, standIns := [], harness := (true, "fb1c0fed94244217e4c5479918ca30b579a38417469e1cde3e83f4906f78af8e"), looks := true }, kinds := [], alts := [], laidByText := true, laidKinds := [.data, .data, .data, .sentinel, .sentinel], laidTests := true, laidLooks := .later }
def CheckpointCollectsUptoCardSaid : Prop := Claim7.holds Tryz.pinned (.plain (OpenSpec.upto checkpointCollectsSpec)) checkpointCollectsUptoCard
end Rows
end Go.Proofs.YtfijlibaeahlaaaGreatDoor
