/-
  DERIVED. GIVEN WITH THE SEED: THE CARDS: each row of YtebnciehcnedjaaGreatDoorRows.lean that lists a variable, with what it lists TIED to the program's text (the seventh form; the later family's looks); each row that meets fmt, with fmt's text TOLD by the authors' own Lean function (tested against real Go, not proved from fmt's source: count such statements apart). THE CARD IS WHAT COUNTS. Prove the row's statement (the work); the ties are given (YtebnciehcnedjaaGreatDoorTie.lean); close each card by the builder's one call (the guide's Derived/Test/ToyasCard.lean, 'card_holds'). Laid BY PROGRAM, IN A SANDBOX (cutbox-door.mjs). By AI agents, Wed Nov 11 2026. No macro, syntax, notation, axiom, sorry.
-/
import Derived.Test.YtebnciehcnedjaaGreatDoorRows
import GoSem.ClaimSeven
namespace Go.Proofs.YtebnciehcnedjaaGreatDoor
namespace Rows

/-- THE TIED CARD OF 'erratalaw29.StoreRestores'. -/
def storeRestoresCard : Claim7 := { stood := { row := storeRestoresRow, standIns := [], harness := (true, "0760bda73862d99049ccea61f90bc6a57432f4f643e942414a56c8714de96219"), looks := true }, kinds := [], alts := [], laidByText := true, laidKinds := [.data, .data, .data, .sentinel, .sentinel], laidTests := true, laidLooks := .later }
def StoreRestoresCardSaid : Prop := Claim7.holds Tryz.pinned (.plain (OpenSpec.ofChange storeRestoresSpec)) storeRestoresCard

/-- THE TIED CARD OF 'erratalaw29.StoreReplays'. -/
def storeReplaysCard : Claim7 := { stood := { row := storeReplaysRow, standIns := [], harness := (true, "0760bda73862d99049ccea61f90bc6a57432f4f643e942414a56c8714de96219"), looks := true }, kinds := [], alts := [], laidByText := true, laidKinds := [.data, .data, .data, .sentinel, .sentinel], laidTests := true, laidLooks := .later }
def StoreReplaysCardSaid : Prop := Claim7.holds Tryz.pinned (.plain (OpenSpec.ofChange storeReplaysSpec)) storeReplaysCard

/-- THE TIED CARD OF 'erratalaw29.StoreBounds'. -/
def storeBoundsCard : Claim7 := { stood := { row := storeBoundsRow, standIns := [], harness := (true, "0760bda73862d99049ccea61f90bc6a57432f4f643e942414a56c8714de96219"), looks := true }, kinds := [], alts := [], laidByText := true, laidKinds := [.data, .data, .data, .sentinel, .sentinel], laidTests := true, laidLooks := .later }
def StoreBoundsCardSaid : Prop := Claim7.holds Tryz.pinned (.plain (OpenSpec.ofChange storeBoundsSpec)) storeBoundsCard

/-- THE TIED CARD OF 'erratalaw29.StoreTells'. -/
def storeTellsCard : Claim7 := { stood := { row := storeTellsRow, standIns := [], harness := (true, "0760bda73862d99049ccea61f90bc6a57432f4f643e942414a56c8714de96219"), looks := true }, kinds := [], alts := [], laidByText := true, laidKinds := [.data, .data, .data, .sentinel, .sentinel], laidTests := true, laidLooks := .later }
def StoreTellsCardSaid : Prop := Claim7.holds Tryz.pinned (.plain (OpenSpec.ofChange storeTellsSpec)) storeTellsCard

/-- THE TIED CARD OF 'erratalaw29.StorePlain'. -/
def storePlainCard : Claim7 := { stood := { row := storePlainRow, standIns := [], harness := (true, "0760bda73862d99049ccea61f90bc6a57432f4f643e942414a56c8714de96219"), looks := true }, kinds := [], alts := [], laidByText := true, laidKinds := [.data, .data, .data, .sentinel, .sentinel], laidTests := true, laidLooks := .later }
def StorePlainCardSaid : Prop := Claim7.holds Tryz.pinned (.plain (OpenSpec.ofChange storePlainSpec)) storePlainCard

/-- THE SECOND FORM's CARD OF 'erratalaw29.StoreRestores'. -/
def storeRestoresUptoCard : Claim7 := { stood := { row := storeRestoresUptoRow, standIns := [], harness := (true, "0760bda73862d99049ccea61f90bc6a57432f4f643e942414a56c8714de96219"), looks := true }, kinds := [], alts := [], laidByText := true, laidKinds := [.data, .data, .data, .sentinel, .sentinel], laidTests := true, laidLooks := .later }
def StoreRestoresUptoCardSaid : Prop := Claim7.holds Tryz.pinned (.plain (OpenSpec.upto storeRestoresSpec)) storeRestoresUptoCard

/-- THE SECOND FORM's CARD OF 'erratalaw29.StoreReplays'. -/
def storeReplaysUptoCard : Claim7 := { stood := { row := storeReplaysUptoRow, standIns := [], harness := (true, "0760bda73862d99049ccea61f90bc6a57432f4f643e942414a56c8714de96219"), looks := true }, kinds := [], alts := [], laidByText := true, laidKinds := [.data, .data, .data, .sentinel, .sentinel], laidTests := true, laidLooks := .later }
def StoreReplaysUptoCardSaid : Prop := Claim7.holds Tryz.pinned (.plain (OpenSpec.upto storeReplaysSpec)) storeReplaysUptoCard

/-- THE SECOND FORM's CARD OF 'erratalaw29.StoreBounds'. -/
def storeBoundsUptoCard : Claim7 := { stood := { row := storeBoundsUptoRow, standIns := [], harness := (true, "0760bda73862d99049ccea61f90bc6a57432f4f643e942414a56c8714de96219"), looks := true }, kinds := [], alts := [], laidByText := true, laidKinds := [.data, .data, .data, .sentinel, .sentinel], laidTests := true, laidLooks := .later }
def StoreBoundsUptoCardSaid : Prop := Claim7.holds Tryz.pinned (.plain (OpenSpec.upto storeBoundsSpec)) storeBoundsUptoCard

/-- THE SECOND FORM's CARD OF 'erratalaw29.StoreTells'. -/
def storeTellsUptoCard : Claim7 := { stood := { row := storeTellsUptoRow, standIns := [], harness := (true, "0760bda73862d99049ccea61f90bc6a57432f4f643e942414a56c8714de96219"), looks := true }, kinds := [], alts := [], laidByText := true, laidKinds := [.data, .data, .data, .sentinel, .sentinel], laidTests := true, laidLooks := .later }
def StoreTellsUptoCardSaid : Prop := Claim7.holds Tryz.pinned (.plain (OpenSpec.upto storeTellsSpec)) storeTellsUptoCard

/-- THE SECOND FORM's CARD OF 'erratalaw29.StorePlain'. -/
def storePlainUptoCard : Claim7 := { stood := { row := storePlainUptoRow, standIns := [], harness := (true, "0760bda73862d99049ccea61f90bc6a57432f4f643e942414a56c8714de96219"), looks := true }, kinds := [], alts := [], laidByText := true, laidKinds := [.data, .data, .data, .sentinel, .sentinel], laidTests := true, laidLooks := .later }
def StorePlainUptoCardSaid : Prop := Claim7.holds Tryz.pinned (.plain (OpenSpec.upto storePlainSpec)) storePlainUptoCard
end Rows
end Go.Proofs.YtebnciehcnedjaaGreatDoor
