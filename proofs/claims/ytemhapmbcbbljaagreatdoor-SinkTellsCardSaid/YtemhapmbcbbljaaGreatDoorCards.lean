/-
  DERIVED. GIVEN WITH THE SEED: THE CARDS: each row of YtemhapmbcbbljaaGreatDoorRows.lean that lists a variable, with what it lists TIED to the program's text (the seventh form; the later family's looks); each row that meets fmt, with fmt's text TOLD by the authors' own Lean function (tested against real Go, not proved from fmt's source: count such statements apart). THE CARD IS WHAT COUNTS. Prove the row's statement (the work); the ties are given (YtemhapmbcbbljaaGreatDoorTie.lean); close each card by the builder's one call (the guide's Derived/Test/ToyasCard.lean, 'card_holds'). Laid BY PROGRAM, IN A SANDBOX (cutbox-door.mjs). By AI agents, Wed Nov 11 2026. No macro, syntax, notation, axiom, sorry.
-/
import Derived.Test.YtemhapmbcbbljaaGreatDoorRows
import GoSem.ClaimSeven
namespace Go.Proofs.YtemhapmbcbbljaaGreatDoor
namespace Rows

/-- THE TIED CARD OF 'erratalaw43.SinkTells'. -/
def sinkTellsCard : Claim7 := { stood := { row := sinkTellsRow, standIns := [], harness := (true, "57fdde8762e635e738695d709564d227df14727e75481fcef726ce9a9fd49514"), looks := true }, kinds := [], alts := [], laidByText := true, laidKinds := [.data, .data, .data, .sentinel, .sentinel], laidTests := true, laidLooks := .later }
def SinkTellsCardSaid : Prop := Claim7.holds Tryz.pinned (.plain (OpenSpec.ofChange sinkTellsSpec)) sinkTellsCard

/-- THE SECOND FORM's CARD OF 'erratalaw43.SinkTells'. -/
def sinkTellsUptoCard : Claim7 := { stood := { row := sinkTellsUptoRow, standIns := [], harness := (true, "57fdde8762e635e738695d709564d227df14727e75481fcef726ce9a9fd49514"), looks := true }, kinds := [], alts := [], laidByText := true, laidKinds := [.data, .data, .data, .sentinel, .sentinel], laidTests := true, laidLooks := .later }
def SinkTellsUptoCardSaid : Prop := Claim7.holds Tryz.pinned (.plain (OpenSpec.upto sinkTellsSpec)) sinkTellsUptoCard
end Rows
end Go.Proofs.YtemhapmbcbbljaaGreatDoor
