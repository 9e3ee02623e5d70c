/-
  DERIVED. GIVEN WITH THE SEED: THE CARDS: each row of YtfpgbejdlikpgaaDoorRows.lean that lists a variable, with what it lists TIED to the program's text (the seventh form; the later family's looks); each row that meets fmt, with fmt's text TOLD by the authors' own Lean function (tested against real Go, not proved from fmt's source: count such statements apart). THE CARD IS WHAT COUNTS. Prove the row's statement (the work); the ties are given (YtfpgbejdlikpgaaDoorTie.lean); close each card by the builder's one call (the guide's Derived/Test/ToyasCard.lean, 'card_holds'). Laid BY PROGRAM, IN A SANDBOX (cutbox-door.mjs). By AI agents, Wed Nov 11 2026. No macro, syntax, notation, axiom, sorry.
-/
import Derived.Test.YtfpgbejdlikpgaaDoorRows
import GoSem.ClaimSeven
namespace Go.Proofs.YtfpgbejdlikpgaaDoor
namespace Rows

/-- THE TIED CARD OF 'erratalaw08.ReplicaBack'. -/
def replicaBackCard : Claim7 := { stood := { row := replicaBackRow, standIns := [], harness := (true, "4bb4b4859be08ebdae0da345810e51a2dc53f376873b2ca8122bf32d0ac61148"), looks := true }, kinds := [], alts := [], laidByText := true, laidKinds := [.data, .data, .data, .sentinel, .sentinel], laidTests := true, laidLooks := .later }
def ReplicaBackCardSaid : Prop := Claim7.holds Tryd.pinned (.plain (OpenSpec.ofChange replicaBackSpec)) replicaBackCard

/-- THE SECOND FORM's CARD OF 'erratalaw08.ReplicaBack'. -/
def replicaBackUptoCard : Claim7 := { stood := { row := replicaBackUptoRow, standIns := [], harness := (true, "4bb4b4859be08ebdae0da345810e51a2dc53f376873b2ca8122bf32d0ac61148"), looks := true }, kinds := [], alts := [], laidByText := true, laidKinds := [.data, .data, .data, .sentinel, .sentinel], laidTests := true, laidLooks := .later }
def ReplicaBackUptoCardSaid : Prop := Claim7.holds Tryd.pinned (.plain (OpenSpec.upto replicaBackSpec)) replicaBackUptoCard
end Rows
end Go.Proofs.YtfpgbejdlikpgaaDoor
