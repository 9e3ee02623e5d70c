/-
  DERIVED. GIVEN WITH THE SEED: THE CARDS: each row of YtnapfhbibikbiaaGreatDoorRows.lean that lists a variable, with what it lists TIED to the program's text (the seventh form; the later family's looks); each row that meets fmt, with fmt's text TOLD by the authors' own Lean function (tested against real Go, not proved from fmt's source: count such statements apart). THE CARD IS WHAT COUNTS. Prove the row's statement (the work); the ties are given (YtnapfhbibikbiaaGreatDoorTie.lean); close each card by the builder's one call (the guide's Derived/Test/ToyasCard.lean, 'card_holds'). Laid BY PROGRAM, IN A SANDBOX (cutbox-door.mjs). By AI agents, Wed Nov 11 2026. No macro, syntax, notation, axiom, sorry.
-/
import Derived.Test.YtnapfhbibikbiaaGreatDoorRows
import GoSem.ClaimSeven
namespace Go.Proofs.YtnapfhbibikbiaaGreatDoor
namespace Rows

/-- THE TIED CARD OF 'erratalaw28.DeltaBytes'. -/
def deltaBytesCard : Claim7 := { stood := { row := deltaBytesRow, standIns := [], harness := (true, "df8eca1a42d166c6b2464522c9e48e2a8c924c52adb04d7810fe08c445da2955"), looks := true }, kinds := [], alts := [], laidByText := true, laidKinds := [.data, .data, .data, .sentinel, .sentinel], laidTests := true, laidLooks := .later }
def DeltaBytesCardSaid : Prop := Claim7.holds Tryz.pinned (.plain (OpenSpec.ofChange deltaBytesSpec)) deltaBytesCard

/-- THE SECOND FORM's CARD OF 'erratalaw28.DeltaBytes'. -/
def deltaBytesUptoCard : Claim7 := { stood := { row := deltaBytesUptoRow, standIns := [], harness := (true, "df8eca1a42d166c6b2464522c9e48e2a8c924c52adb04d7810fe08c445da2955"), looks := true }, kinds := [], alts := [], laidByText := true, laidKinds := [.data, .data, .data, .sentinel, .sentinel], laidTests := true, laidLooks := .later }
def DeltaBytesUptoCardSaid : Prop := Claim7.holds Tryz.pinned (.plain (OpenSpec.upto deltaBytesSpec)) deltaBytesUptoCard
end Rows
end Go.Proofs.YtnapfhbibikbiaaGreatDoor
