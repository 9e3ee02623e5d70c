/-
  DERIVED. GIVEN WITH THE SEED: THE CARDS: each row of YtjlfpkgjcffilaaGreatDoorRows.lean that lists a variable, with what it lists TIED to the program's text (the seventh form; the later family's looks); each row that meets fmt, with fmt's text TOLD by the authors' own Lean function (tested against real Go, not proved from fmt's source: count such statements apart). THE CARD IS WHAT COUNTS. Prove the row's statement (the work); the ties are given (YtjlfpkgjcffilaaGreatDoorTie.lean); close each card by the builder's one call (the guide's Derived/Test/ToyasCard.lean, 'card_holds'). Laid BY PROGRAM, IN A SANDBOX (cutbox-door.mjs). By AI agents, Wed Nov 11 2026. No macro, syntax, notation, axiom, sorry.
-/
import Derived.Test.YtjlfpkgjcffilaaGreatDoorRows
import GoSem.ClaimSeven
namespace Go.Proofs.YtjlfpkgjcffilaaGreatDoor
namespace Rows

/-- THE TIED CARD OF 'erratalaw43.SinkBack'. -/
def sinkBackCard : Claim7 := { stood := { row := sinkBackRow, standIns := [], harness := (true, "3d5af4928f7a83f4eed07ce0033935b45583037dc6a8beed6c6502d02f96e1cf"), looks := true }, kinds := [], alts := [], laidByText := true, laidKinds := [.data, .data, .data, .sentinel, .sentinel], laidTests := true, laidLooks := .later }
def SinkBackCardSaid : Prop := Claim7.holds Tryz.pinned (.plain (OpenSpec.ofChange sinkBackSpec)) sinkBackCard

/-- THE TIED CARD OF 'erratalaw43.SinkOnce'. -/
def sinkOnceCard : Claim7 := { stood := { row := sinkOnceRow, standIns := [], harness := (true, "3d5af4928f7a83f4eed07ce0033935b45583037dc6a8beed6c6502d02f96e1cf"), looks := true }, kinds := [], alts := [], laidByText := true, laidKinds := [.data, .data, .data, .sentinel, .sentinel], laidTests := true, laidLooks := .later }
def SinkOnceCardSaid : Prop := Claim7.holds Tryz.pinned (.plain (OpenSpec.ofChange sinkOnceSpec)) sinkOnceCard

/-- THE TIED CARD OF 'erratalaw43.SinkHides'. -/
def sinkHidesCard : Claim7 := { stood := { row := sinkHidesRow, standIns := [], harness := (true, "3d5af4928f7a83f4eed07ce0033935b45583037dc6a8beed6c6502d02f96e1cf"), looks := true }, kinds := [], alts := [], laidByText := true, laidKinds := [.data, .data, .data, .sentinel, .sentinel], laidTests := true, laidLooks := .later }
def SinkHidesCardSaid : Prop := Claim7.holds Tryz.pinned (.plain (OpenSpec.ofChange sinkHidesSpec)) sinkHidesCard

/-- THE TIED CARD OF 'erratalaw43.SinkTells'. -/
def sinkTellsCard : Claim7 := { stood := { row := sinkTellsRow, standIns := [], harness := (true, "3d5af4928f7a83f4eed07ce0033935b45583037dc6a8beed6c6502d02f96e1cf"), looks := true }, kinds := [], alts := [], laidByText := true, laidKinds := [.data, .data, .data, .sentinel, .sentinel], laidTests := true, laidLooks := .later }
def SinkTellsCardSaid : Prop := Claim7.holds Tryz.pinned (.plain (OpenSpec.ofChange sinkTellsSpec)) sinkTellsCard

/-- THE SECOND FORM's CARD OF 'erratalaw43.SinkBack'. -/
def sinkBackUptoCard : Claim7 := { stood := { row := sinkBackUptoRow, standIns := [], harness := (true, "3d5af4928f7a83f4eed07ce0033935b45583037dc6a8beed6c6502d02f96e1cf"), looks := true }, kinds := [], alts := [], laidByText := true, laidKinds := [.data, .data, .data, .sentinel, .sentinel], laidTests := true, laidLooks := .later }
def SinkBackUptoCardSaid : Prop := Claim7.holds Tryz.pinned (.plain (OpenSpec.upto sinkBackSpec)) sinkBackUptoCard

/-- THE SECOND FORM's CARD OF 'erratalaw43.SinkOnce'. -/
def sinkOnceUptoCard : Claim7 := { stood := { row := sinkOnceUptoRow, standIns := [], harness := (true, "3d5af4928f7a83f4eed07ce0033935b45583037dc6a8beed6c6502d02f96e1cf"), looks := true }, kinds := [], alts := [], laidByText := true, laidKinds := [.data, .data, .data, .sentinel, .sentinel], laidTests := true, laidLooks := .later }
def SinkOnceUptoCardSaid : Prop := Claim7.holds Tryz.pinned (.plain (OpenSpec.upto sinkOnceSpec)) sinkOnceUptoCard

/-- THE SECOND FORM's CARD OF 'erratalaw43.SinkHides'. -/
def sinkHidesUptoCard : Claim7 := { stood := { row := sinkHidesUptoRow, standIns := [], harness := (true, "3d5af4928f7a83f4eed07ce0033935b45583037dc6a8beed6c6502d02f96e1cf"), looks := true }, kinds := [], alts := [], laidByText := true, laidKinds := [.data, .data, .data, .sentinel, .sentinel], laidTests := true, laidLooks := .later }
def SinkHidesUptoCardSaid : Prop := Claim7.holds Tryz.pinned (.plain (OpenSpec.upto sinkHidesSpec)) sinkHidesUptoCard

/-- THE SECOND FORM's CARD OF 'erratalaw43.SinkTells'. -/
def sinkTellsUptoCard : Claim7 := { stood := { row := sinkTellsUptoRow, standIns := [], harness := (true, "3d5af4928f7a83f4eed07ce0033935b45583037dc6a8beed6c6502d02f96e1cf"), looks := true }, kinds := [], alts := [], laidByText := true, laidKinds := [.data, .data, .data, .sentinel, .sentinel], laidTests := true, laidLooks := .later }
def SinkTellsUptoCardSaid : Prop := Claim7.holds Tryz.pinned (.plain (OpenSpec.upto sinkTellsSpec)) sinkTellsUptoCard
end Rows
end Go.Proofs.YtjlfpkgjcffilaaGreatDoor
