/-
  DERIVED. GIVEN WITH THE SEED: THE CARDS: each row of YtcmgeboolmmdkaaGreatDoorRows.lean that lists a variable, with what it lists TIED to the program's text (the seventh form; the later family's looks); each row that meets fmt, with fmt's text TOLD by the authors' own Lean function (tested against real Go, not proved from fmt's source: count such statements apart). THE CARD IS WHAT COUNTS. Prove the row's statement (the work); the ties are given (YtcmgeboolmmdkaaGreatDoorTie.lean); close each card by the builder's one call (the guide's Derived/Test/ToyasCard.lean, 'card_holds'). Laid BY PROGRAM, IN A SANDBOX (cutbox-door.mjs). By AI agents, Wed Nov 11 2026. No macro, syntax, notation, axiom, sorry.
-/
import Derived.Test.YtcmgeboolmmdkaaGreatDoorRows
import GoSem.ClaimSeven
namespace Go.Proofs.YtcmgeboolmmdkaaGreatDoor
namespace Rows

/-- THE TIED CARD OF 'erratalaw09.GroupLeads'. -/
def groupLeadsCard : Claim7 := { stood := { row := groupLeadsRow, standIns := [], harness := (true, "c6d0d01d299b50e5e01239502f638f5e64f60bbdddbf23c48463f8c5471535f0"), looks := true }, kinds := [], alts := [], laidByText := true, laidKinds := [.data, .data, .data, .data, .sentinel, .sentinel], laidTests := true, laidLooks := .later }
def GroupLeadsCardSaid : Prop := Claim7.holds Tryz.pinned (.plain (OpenSpec.ofChange groupLeadsSpec)) groupLeadsCard

/-- THE SECOND FORM's CARD OF 'erratalaw09.GroupLeads'. -/
def groupLeadsUptoCard : Claim7 := { stood := { row := groupLeadsUptoRow, standIns := [], harness := (true, "c6d0d01d299b50e5e01239502f638f5e64f60bbdddbf23c48463f8c5471535f0"), looks := true }, kinds := [], alts := [], laidByText := true, laidKinds := [.data, .data, .data, .data, .sentinel, .sentinel], laidTests := true, laidLooks := .later }
def GroupLeadsUptoCardSaid : Prop := Claim7.holds Tryz.pinned (.plain (OpenSpec.upto groupLeadsSpec)) groupLeadsUptoCard
end Rows
end Go.Proofs.YtcmgeboolmmdkaaGreatDoor
