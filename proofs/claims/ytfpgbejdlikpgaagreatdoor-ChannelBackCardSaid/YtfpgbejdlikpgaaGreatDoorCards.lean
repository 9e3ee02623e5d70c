/-
  DERIVED. GIVEN WITH THE SEED: THE CARDS: each row of YtfpgbejdlikpgaaGreatDoorRows.lean that lists a variable, with what it lists TIED to the program's text (the seventh form; the later family's looks); each row that meets fmt, with fmt's text TOLD by the authors' own Lean function (tested against real Go, not proved from fmt's source: count such statements apart). THE CARD IS WHAT COUNTS. Prove the row's statement (the work); the ties are given (YtfpgbejdlikpgaaGreatDoorTie.lean); close each card by the builder's one call (the guide's Derived/Test/ToyasCard.lean, 'card_holds'). Laid BY PROGRAM, IN A SANDBOX (cutbox-door.mjs). By AI agents, Wed Nov 11 2026. No macro, syntax, notation, axiom, sorry.
-/
import Derived.Test.YtfpgbejdlikpgaaGreatDoorRows
import GoSem.ClaimSeven
namespace Go.Proofs.YtfpgbejdlikpgaaGreatDoor
namespace Rows

/-- THE TIED CARD OF 'erratalaw36.ChannelTells'. -/
def channelTellsCard : Claim7 := { stood := { row := channelTellsRow, standIns := [], harness := (true, "5c370d68c3ba15249bdaf20f92f3c2aa73cba3bf3ac1f5029395c36f545927bc"), looks := true }, kinds := [], alts := [], laidByText := true, laidKinds := [.data, .data, .data], laidTests := true, laidLooks := .later }
def ChannelTellsCardSaid : Prop := Claim7.holds Tryz.pinned (.plain (OpenSpec.ofChange channelTellsSpec)) channelTellsCard

/-- THE TIED CARD OF 'erratalaw36.ChannelBack'. -/
def channelBackCard : Claim7 := { stood := { row := channelBackRow, standIns := [], harness := (true, "5c370d68c3ba15249bdaf20f92f3c2aa73cba3bf3ac1f5029395c36f545927bc"), looks := true }, kinds := [], alts := [], laidByText := true, laidKinds := [.data, .data, .data, .sentinel, .sentinel], laidTests := true, laidLooks := .later }
def ChannelBackCardSaid : Prop := Claim7.holds Tryz.pinned (.plain (OpenSpec.ofChange channelBackSpec)) channelBackCard

/-- THE SECOND FORM's CARD OF 'erratalaw36.ChannelTells'. -/
def channelTellsUptoCard : Claim7 := { stood := { row := channelTellsUptoRow, standIns := [], harness := (true, "5c370d68c3ba15249bdaf20f92f3c2aa73cba3bf3ac1f5029395c36f545927bc"), looks := true }, kinds := [], alts := [], laidByText := true, laidKinds := [.data, .data, .data], laidTests := true, laidLooks := .later }
def ChannelTellsUptoCardSaid : Prop := Claim7.holds Tryz.pinned (.plain (OpenSpec.upto channelTellsSpec)) channelTellsUptoCard

/-- THE SECOND FORM's CARD OF 'erratalaw36.ChannelBack'. -/
def channelBackUptoCard : Claim7 := { stood := { row := channelBackUptoRow, standIns := [], harness := (true, "5c370d68c3ba15249bdaf20f92f3c2aa73cba3bf3ac1f5029395c36f545927bc"), looks := true }, kinds := [], alts := [], laidByText := true, laidKinds := [.data, .data, .data, .sentinel, .sentinel], laidTests := true, laidLooks := .later }
def ChannelBackUptoCardSaid : Prop := Claim7.holds Tryz.pinned (.plain (OpenSpec.upto channelBackSpec)) channelBackUptoCard
end Rows
end Go.Proofs.YtfpgbejdlikpgaaGreatDoor
