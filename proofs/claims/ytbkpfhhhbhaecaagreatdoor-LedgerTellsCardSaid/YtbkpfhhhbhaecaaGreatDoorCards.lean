/-
  DERIVED. GIVEN WITH THE SEED: THE CARDS: each row of YtbkpfhhhbhaecaaGreatDoorRows.lean that lists a variable, with what it lists TIED to the program's text (the seventh form; the later family's looks); each row that meets fmt, with fmt's text TOLD by the authors' own Lean function (tested against real Go, not proved from fmt's source: count such statements apart). THE CARD IS WHAT COUNTS. Prove the row's statement (the work); the ties are given (YtbkpfhhhbhaecaaGreatDoorTie.lean); close each card by the builder's one call (the guide's Derived/Test/ToyasCard.lean, 'card_holds'). Laid BY PROGRAM, IN A SANDBOX (cutbox-door.mjs). By AI agents, Wed Nov 11 2026. No macro, syntax, notation, axiom, sorry.
-/
import Derived.Test.YtbkpfhhhbhaecaaGreatDoorRows
import GoSem.ClaimSeven
namespace Go.Proofs.YtbkpfhhhbhaecaaGreatDoor
namespace Rows

/-- THE TIED CARD OF 'erratalaw41.LedgerTells'. -/
def ledgerTellsCard : Claim7 := { stood := { row := ledgerTellsRow, standIns := [], harness := (true, "ee988aeb4e9cccc35176508b9b24a248a25ce4b9996d2b8b1b7590afd71f3a8a"), looks := true }, kinds := [], alts := [], laidByText := true, laidKinds := [.data, .data, .data], laidTests := true, laidLooks := .later }
def LedgerTellsCardSaid : Prop := Claim7.holds Tryz.pinned (.plain (OpenSpec.ofChange ledgerTellsSpec)) ledgerTellsCard

/-- THE TIED CARD OF 'erratalaw41.LedgerBack'. -/
def ledgerBackCard : Claim7 := { stood := { row := ledgerBackRow, standIns := [], harness := (true, "ee988aeb4e9cccc35176508b9b24a248a25ce4b9996d2b8b1b7590afd71f3a8a"), looks := true }, kinds := [], alts := [], laidByText := true, laidKinds := [.data, .data, .data, .sentinel, .sentinel], laidTests := true, laidLooks := .later }
def LedgerBackCardSaid : Prop := Claim7.holds Tryz.pinned (.plain (OpenSpec.ofChange ledgerBackSpec)) ledgerBackCard

/-- THE SECOND FORM's CARD OF 'erratalaw41.LedgerTells'. -/
def ledgerTellsUptoCard : Claim7 := { stood := { row := ledgerTellsUptoRow, standIns := [], harness := (true, "ee988aeb4e9cccc35176508b9b24a248a25ce4b9996d2b8b1b7590afd71f3a8a"), looks := true }, kinds := [], alts := [], laidByText := true, laidKinds := [.data, .data, .data], laidTests := true, laidLooks := .later }
def LedgerTellsUptoCardSaid : Prop := Claim7.holds Tryz.pinned (.plain (OpenSpec.upto ledgerTellsSpec)) ledgerTellsUptoCard

/-- THE SECOND FORM's CARD OF 'erratalaw41.LedgerBack'. -/
def ledgerBackUptoCard : Claim7 := { stood := { row := ledgerBackUptoRow, standIns := [], harness := (true, "ee988aeb4e9cccc35176508b9b24a248a25ce4b9996d2b8b1b7590afd71f3a8a"), looks := true }, kinds := [], alts := [], laidByText := true, laidKinds := [.data, .data, .data, .sentinel, .sentinel], laidTests := true, laidLooks := .later }
def LedgerBackUptoCardSaid : Prop := Claim7.holds Tryz.pinned (.plain (OpenSpec.upto ledgerBackSpec)) ledgerBackUptoCard
end Rows
end Go.Proofs.YtbkpfhhhbhaecaaGreatDoor
