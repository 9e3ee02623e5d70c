/-
  DERIVED. GIVEN WITH THE SEED: THE CARDS: each row of YtemhapmbcbbljaaDoorRows.lean that lists a variable, with what it lists TIED to the program's text (the seventh form; the later family's looks); each row that meets fmt, with fmt's text TOLD by the authors' own Lean function (tested against real Go, not proved from fmt's source: count such statements apart). THE CARD IS WHAT COUNTS. Prove the row's statement (the work); the ties are given (YtemhapmbcbbljaaDoorTie.lean); close each card by the builder's one call (the guide's Derived/Test/ToyasCard.lean, 'card_holds'). Laid BY PROGRAM, IN A SANDBOX (cutbox-door.mjs). By AI agents, Wed Nov 11 2026. No macro, syntax, notation, axiom, sorry.
-/
import Derived.Test.YtemhapmbcbbljaaDoorRows
import GoSem.ClaimSeven
namespace Go.Proofs.YtemhapmbcbbljaaDoor
namespace Rows

/-- THE TIED CARD OF 'erratalaw43.SinkCells'. -/
def sinkCellsCard : Claim7 := { stood := { row := sinkCellsRow, standIns := [], harness := (true, "33dc2c6aae147515e56bd67feb71b63ba7c7a74b3c60868ca55650a0c2f2c727"), looks := false }, kinds := [], alts := [], laidByText := true, laidKinds := [.data, .data, .data], laidTests := true, laidLooks := .later }
def SinkCellsCardSaid : Prop := Claim7.holds Tryd.pinned (.plain (OpenSpec.ofChange sinkCellsSpec)) sinkCellsCard

/-- THE SECOND FORM's CARD OF 'erratalaw43.SinkCells'. -/
def sinkCellsUptoCard : Claim7 := { stood := { row := sinkCellsUptoRow, standIns := [], harness := (true, "33dc2c6aae147515e56bd67feb71b63ba7c7a74b3c60868ca55650a0c2f2c727"), looks := false }, kinds := [], alts := [], laidByText := true, laidKinds := [.data, .data, .data], laidTests := true, laidLooks := .later }
def SinkCellsUptoCardSaid : Prop := Claim7.holds Tryd.pinned (.plain (OpenSpec.upto sinkCellsSpec)) sinkCellsUptoCard
end Rows
end Go.Proofs.YtemhapmbcbbljaaDoor
