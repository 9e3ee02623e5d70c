/-
  DERIVED. GIVEN WITH THE SEED: THE CARDS: each row of YtbkpfhhhbhaecaaDoorRows.lean that lists a variable, with what it lists TIED to the program's text (the seventh form; the later family's looks); each row that meets fmt, with fmt's text TOLD by the authors' own Lean function (tested against real Go, not proved from fmt's source: count such statements apart). THE CARD IS WHAT COUNTS. Prove the row's statement (the work); the ties are given (YtbkpfhhhbhaecaaDoorTie.lean); close each card by the builder's one call (the guide's Derived/Test/ToyasCard.lean, 'card_holds'). Laid BY PROGRAM, IN A SANDBOX (cutbox-door.mjs). By AI agents, Wed Nov 11 2026. No macro, syntax, notation, axiom, sorry.
-/
import Derived.Test.YtbkpfhhhbhaecaaDoorRows
import GoSem.ClaimSeven
namespace Go.Proofs.YtbkpfhhhbhaecaaDoor
namespace Rows

/-- THE TIED CARD OF 'erratalaw37.PlaceSpread'. -/
def placeSpreadCard : Claim7 := { stood := { row := placeSpreadRow, standIns := [], harness := (true, "ea4f19457345ad55a41feebd14ccc662d8e758c1e6ed3416468faff9d95bd6de"), looks := true }, kinds := [], alts := [], laidByText := true, laidKinds := [.data, .data, .data], laidTests := true, laidLooks := .later }
def PlaceSpreadCardSaid : Prop := Claim7.holds Tryd.pinned (.plain (OpenSpec.ofChange placeSpreadSpec)) placeSpreadCard

/-- THE TIED CARD OF 'erratalaw37.PlaceMoves'. -/
def placeMovesCard : Claim7 := { stood := { row := placeMovesRow, standIns := [], harness := (true, "ea4f19457345ad55a41feebd14ccc662d8e758c1e6ed3416468faff9d95bd6de"), looks := true }, kinds := [], alts := [], laidByText := true, laidKinds := [.data, .data, .data], laidTests := true, laidLooks := .later }
def PlaceMovesCardSaid : Prop := Claim7.holds Tryd.pinned (.plain (OpenSpec.ofChange placeMovesSpec)) placeMovesCard

/-- THE TIED CARD OF 'erratalaw37.PlaceKeys'. -/
def placeKeysCard : Claim7 := { stood := { row := placeKeysRow, standIns := [], harness := (true, "ea4f19457345ad55a41feebd14ccc662d8e758c1e6ed3416468faff9d95bd6de"), looks := true }, kinds := [], alts := [], laidByText := true, laidKinds := [.data, .data, .data], laidTests := true, laidLooks := .later }
def PlaceKeysCardSaid : Prop := Claim7.holds Tryd.pinned (.plain (OpenSpec.ofChange placeKeysSpec)) placeKeysCard

/-- THE TIED CARD OF 'erratalaw41.LedgerPast'. -/
def ledgerPastCard : Claim7 := { stood := { row := ledgerPastRow, standIns := [], harness := (true, "ea4f19457345ad55a41feebd14ccc662d8e758c1e6ed3416468faff9d95bd6de"), looks := true }, kinds := [], alts := [], laidByText := true, laidKinds := [.data, .data, .data], laidTests := true, laidLooks := .later }
def LedgerPastCardSaid : Prop := Claim7.holds Tryd.pinned (.plain (OpenSpec.ofChange ledgerPastSpec)) ledgerPastCard

/-- THE TIED CARD OF 'erratalaw37.PlaceRoutes'. -/
def placeRoutesCard : Claim7 := { stood := { row := placeRoutesRow, standIns := [], harness := (true, "ea4f19457345ad55a41feebd14ccc662d8e758c1e6ed3416468faff9d95bd6de"), looks := true }, kinds := [], alts := [], laidByText := true, laidKinds := [.data, .data, .data], laidTests := true, laidLooks := .later }
def PlaceRoutesCardSaid : Prop := Claim7.holds Tryd.pinned (.plain (OpenSpec.ofChange placeRoutesSpec)) placeRoutesCard

/-- THE TIED CARD OF 'erratalaw41.LedgerHistory'. -/
def ledgerHistoryCard : Claim7 := { stood := { row := ledgerHistoryRow, standIns := [], harness := (true, "ea4f19457345ad55a41feebd14ccc662d8e758c1e6ed3416468faff9d95bd6de"), looks := true }, kinds := [], alts := [], laidByText := true, laidKinds := [.data, .data, .data], laidTests := true, laidLooks := .later }
def LedgerHistoryCardSaid : Prop := Claim7.holds Tryd.pinned (.plain (OpenSpec.ofChange ledgerHistorySpec)) ledgerHistoryCard

/-- THE TIED CARD OF 'erratalaw41.LedgerSums'. -/
def ledgerSumsCard : Claim7 := { stood := { row := ledgerSumsRow, standIns := [], harness := (true, "ea4f19457345ad55a41feebd14ccc662d8e758c1e6ed3416468faff9d95bd6de"), looks := true }, kinds := [], alts := [], laidByText := true, laidKinds := [.data, .data, .data], laidTests := true, laidLooks := .later }
def LedgerSumsCardSaid : Prop := Claim7.holds Tryd.pinned (.plain (OpenSpec.ofChange ledgerSumsSpec)) ledgerSumsCard

/-- THE SECOND FORM's CARD OF 'erratalaw37.PlaceSpread'. -/
def placeSpreadUptoCard : Claim7 := { stood := { row := placeSpreadUptoRow, standIns := [], harness := (true, "ea4f19457345ad55a41feebd14ccc662d8e758c1e6ed3416468faff9d95bd6de"), looks := true }, kinds := [], alts := [], laidByText := true, laidKinds := [.data, .data, .data], laidTests := true, laidLooks := .later }
def PlaceSpreadUptoCardSaid : Prop := Claim7.holds Tryd.pinned (.plain (OpenSpec.upto placeSpreadSpec)) placeSpreadUptoCard

/-- THE SECOND FORM's CARD OF 'erratalaw37.PlaceMoves'. -/
def placeMovesUptoCard : Claim7 := { stood := { row := placeMovesUptoRow, standIns := [], harness := (true, "ea4f19457345ad55a41feebd14ccc662d8e758c1e6ed3416468faff9d95bd6de"), looks := true }, kinds := [], alts := [], laidByText := true, laidKinds := [.data, .data, .data], laidTests := true, laidLooks := .later }
def PlaceMovesUptoCardSaid : Prop := Claim7.holds Tryd.pinned (.plain (OpenSpec.upto placeMovesSpec)) placeMovesUptoCard

/-- THE SECOND FORM's CARD OF 'erratalaw37.PlaceKeys'. -/
def placeKeysUptoCard : Claim7 := { stood := { row := placeKeysUptoRow, standIns := [], harness := (true, "ea4f19457345ad55a41feebd14ccc662d8e758c1e6ed3416468faff9d95bd6de"), looks := true }, kinds := [], alts := [], laidByText := true, laidKinds := [.data, .data, .data], laidTests := true, laidLooks := .later }
def PlaceKeysUptoCardSaid : Prop := Claim7.holds Tryd.pinned (.plain (OpenSpec.upto placeKeysSpec)) placeKeysUptoCard

/-- THE SECOND FORM's CARD OF 'erratalaw41.LedgerPast'. -/
def ledgerPastUptoCard : Claim7 := { stood := { row := ledgerPastUptoRow, standIns := [], harness := (true, "ea4f19457345ad55a41feebd14ccc662d8e758c1e6ed3416468faff9d95bd6de"), looks := true }, kinds := [], alts := [], laidByText := true, laidKinds := [.data, .data, .data], laidTests := true, laidLooks := .later }
def LedgerPastUptoCardSaid : Prop := Claim7.holds Tryd.pinned (.plain (OpenSpec.upto ledgerPastSpec)) ledgerPastUptoCard

/-- THE SECOND FORM's CARD OF 'erratalaw37.PlaceRoutes'. -/
def placeRoutesUptoCard : Claim7 := { stood := { row := placeRoutesUptoRow, standIns := [], harness := (true, "ea4f19457345ad55a41feebd14ccc662d8e758c1e6ed3416468faff9d95bd6de"), looks := true }, kinds := [], alts := [], laidByText := true, laidKinds := [.data, .data, .data], laidTests := true, laidLooks := .later }
def PlaceRoutesUptoCardSaid : Prop := Claim7.holds Tryd.pinned (.plain (OpenSpec.upto placeRoutesSpec)) placeRoutesUptoCard

/-- THE SECOND FORM's CARD OF 'erratalaw41.LedgerHistory'. -/
def ledgerHistoryUptoCard : Claim7 := { stood := { row := ledgerHistoryUptoRow, standIns := [], harness := (true, "ea4f19457345ad55a41feebd14ccc662d8e758c1e6ed3416468faff9d95bd6de"), looks := true }, kinds := [], alts := [], laidByText := true, laidKinds := [.data, .data, .data], laidTests := true, laidLooks := .later }
def LedgerHistoryUptoCardSaid : Prop := Claim7.holds Tryd.pinned (.plain (OpenSpec.upto ledgerHistorySpec)) ledgerHistoryUptoCard

/-- THE SECOND FORM's CARD OF 'erratalaw41.LedgerSums'. -/
def ledgerSumsUptoCard : Claim7 := { stood := { row := ledgerSumsUptoRow, standIns := [], harness := (true, "ea4f19457345ad55a41feebd14ccc662d8e758c1e6ed3416468faff9d95bd6de"), looks := true }, kinds := [], alts := [], laidByText := true, laidKinds := [.data, .data, .data], laidTests := true, laidLooks := .later }
def LedgerSumsUptoCardSaid : Prop := Claim7.holds Tryd.pinned (.plain (OpenSpec.upto ledgerSumsSpec)) ledgerSumsUptoCard
end Rows
end Go.Proofs.YtbkpfhhhbhaecaaDoor
