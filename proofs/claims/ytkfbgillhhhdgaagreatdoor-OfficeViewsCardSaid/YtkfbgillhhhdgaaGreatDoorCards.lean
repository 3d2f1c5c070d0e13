/-
  DERIVED. GIVEN WITH THE SEED: THE CARDS: each row of YtkfbgillhhhdgaaGreatDoorRows.lean that lists a variable, with what it lists TIED to the program's text (the seventh form; the later family's looks); each row that meets fmt, with fmt's text TOLD by the authors' own Lean function (tested against real Go, not proved from fmt's source: count such statements apart). THE CARD IS WHAT COUNTS. Prove the row's statement (the work); the ties are given (YtkfbgillhhhdgaaGreatDoorTie.lean); close each card by the builder's one call (the guide's Derived/Test/ToyasCard.lean, 'card_holds'). Laid BY PROGRAM, IN A SANDBOX (cutbox-door.mjs). By AI agents, Wed Nov 11 2026. No macro, syntax, notation, axiom, sorry.
-/
import Derived.Test.YtkfbgillhhhdgaaGreatDoorRows
import GoSem.ClaimSeven
namespace Go.Proofs.YtkfbgillhhhdgaaGreatDoor
namespace Rows

/-- THE TIED CARD OF 'flyoverlaw10.OfficeEvents'. -/
def officeEventsCard : Claim7 := { stood := { row := officeEventsRow, standIns := [], harness := (true, "955b595cc5385ef7a002e46dd68bcc84f6d549330109667ecef86e1e8b51a6b5"), looks := false }, kinds := [], alts := [], laidByText := true, laidKinds := [.data, .data, .data, .data, .data, .widerDeep, .pinned], laidTests := true, laidLooks := .later }
def OfficeEventsCardSaid : Prop := Claim7.holds Tryz.pinned (.plain (OpenSpec.ofChange officeEventsSpec)) officeEventsCard

/-- THE TIED CARD OF 'flyoverlaw10.OfficeNumbers'. -/
def officeNumbersCard : Claim7 := { stood := { row := officeNumbersRow, standIns := [], harness := (true, "955b595cc5385ef7a002e46dd68bcc84f6d549330109667ecef86e1e8b51a6b5"), looks := false }, kinds := [], alts := [], laidByText := true, laidKinds := [.data, .data, .data, .data, .data, .widerDeep, .pinned], laidTests := true, laidLooks := .later }
def OfficeNumbersCardSaid : Prop := Claim7.holds Tryz.pinned (.plain (OpenSpec.ofChange officeNumbersSpec)) officeNumbersCard

/-- THE TIED CARD OF 'flyoverlaw10.OfficeChains'. -/
def officeChainsCard : Claim7 := { stood := { row := officeChainsRow, standIns := [], harness := (true, "955b595cc5385ef7a002e46dd68bcc84f6d549330109667ecef86e1e8b51a6b5"), looks := false }, kinds := [], alts := [], laidByText := true, laidKinds := [.data, .data, .data, .data, .data, .widerDeep, .pinned], laidTests := true, laidLooks := .later }
def OfficeChainsCardSaid : Prop := Claim7.holds Tryz.pinned (.plain (OpenSpec.ofChange officeChainsSpec)) officeChainsCard

/-- THE TIED CARD OF 'flyoverlaw10.OfficeMaps'. -/
def officeMapsCard : Claim7 := { stood := { row := officeMapsRow, standIns := [], harness := (true, "955b595cc5385ef7a002e46dd68bcc84f6d549330109667ecef86e1e8b51a6b5"), looks := false }, kinds := [], alts := [], laidByText := true, laidKinds := [.data, .data, .data, .data, .data, .widerDeep, .pinned], laidTests := true, laidLooks := .later }
def OfficeMapsCardSaid : Prop := Claim7.holds Tryz.pinned (.plain (OpenSpec.ofChange officeMapsSpec)) officeMapsCard

/-- THE TIED CARD OF 'flyoverlaw10.OfficeViews'. -/
def officeViewsCard : Claim7 := { stood := { row := officeViewsRow, standIns := [], harness := (true, "955b595cc5385ef7a002e46dd68bcc84f6d549330109667ecef86e1e8b51a6b5"), looks := false }, kinds := [], alts := [], laidByText := true, laidKinds := [.data, .data, .data, .data, .data, .widerDeep, .pinned], laidTests := true, laidLooks := .later }
def OfficeViewsCardSaid : Prop := Claim7.holds Tryz.pinned (.plain (OpenSpec.ofChange officeViewsSpec)) officeViewsCard

/-- THE TIED CARD OF 'flyoverlaw10.OfficeLogs'. -/
def officeLogsCard : Claim7 := { stood := { row := officeLogsRow, standIns := [], harness := (true, "955b595cc5385ef7a002e46dd68bcc84f6d549330109667ecef86e1e8b51a6b5"), looks := false }, kinds := [], alts := [], laidByText := true, laidKinds := [.data, .data, .data, .data, .data, .widerDeep, .pinned], laidTests := true, laidLooks := .later }
def OfficeLogsCardSaid : Prop := Claim7.holds Tryz.pinned (.plain (OpenSpec.ofChange officeLogsSpec)) officeLogsCard

/-- THE TIED CARD OF 'flyoverlaw10.OfficeProved'. -/
def officeProvedCard : Claim7 := { stood := { row := officeProvedRow, standIns := [], harness := (true, "955b595cc5385ef7a002e46dd68bcc84f6d549330109667ecef86e1e8b51a6b5"), looks := false }, kinds := [], alts := [], laidByText := true, laidKinds := [.data, .data, .data, .data, .data, .widerDeep, .pinned], laidTests := true, laidLooks := .later }
def OfficeProvedCardSaid : Prop := Claim7.holds Tryz.pinned (.plain (OpenSpec.ofChange officeProvedSpec)) officeProvedCard

/-- THE TIED CARD OF 'flyoverlaw10.OfficeFixed'. -/
def officeFixedCard : Claim7 := { stood := { row := officeFixedRow, standIns := [], harness := (true, "955b595cc5385ef7a002e46dd68bcc84f6d549330109667ecef86e1e8b51a6b5"), looks := false }, kinds := [], alts := [], laidByText := true, laidKinds := [.data, .data, .data, .data, .data, .widerDeep, .pinned], laidTests := true, laidLooks := .later }
def OfficeFixedCardSaid : Prop := Claim7.holds Tryz.pinned (.plain (OpenSpec.ofChange officeFixedSpec)) officeFixedCard

/-- THE TIED CARD OF 'flyoverlaw10.OfficeReplay'. -/
def officeReplayCard : Claim7 := { stood := { row := officeReplayRow, standIns := [], harness := (true, "955b595cc5385ef7a002e46dd68bcc84f6d549330109667ecef86e1e8b51a6b5"), looks := false }, kinds := [], alts := [], laidByText := true, laidKinds := [.data, .data, .data, .data, .data, .widerDeep, .pinned], laidTests := true, laidLooks := .later }
def OfficeReplayCardSaid : Prop := Claim7.holds Tryz.pinned (.plain (OpenSpec.ofChange officeReplaySpec)) officeReplayCard

/-- THE TIED CARD OF 'flyoverlaw10.OfficeConsole'. -/
def officeConsoleCard : Claim7 := { stood := { row := officeConsoleRow, standIns := [], harness := (true, "955b595cc5385ef7a002e46dd68bcc84f6d549330109667ecef86e1e8b51a6b5"), looks := false }, kinds := [], alts := [], laidByText := true, laidKinds := [.data, .data, .data, .data, .data, .widerDeep, .pinned], laidTests := true, laidLooks := .later }
def OfficeConsoleCardSaid : Prop := Claim7.holds Tryz.pinned (.plain (OpenSpec.ofChange officeConsoleSpec)) officeConsoleCard

/-- THE TIED CARD OF 'flyoverlaw10.OfficeCut'. -/
def officeCutCard : Claim7 := { stood := { row := officeCutRow, standIns := [], harness := (true, "955b595cc5385ef7a002e46dd68bcc84f6d549330109667ecef86e1e8b51a6b5"), looks := false }, kinds := [], alts := [], laidByText := true, laidKinds := [.data, .data, .data, .data, .data, .widerDeep, .pinned], laidTests := true, laidLooks := .later }
def OfficeCutCardSaid : Prop := Claim7.holds Tryz.pinned (.plain (OpenSpec.ofChange officeCutSpec)) officeCutCard

/-- THE TIED CARD OF 'flyoverlaw10.OfficeStories'. -/
def officeStoriesCard : Claim7 := { stood := { row := officeStoriesRow, standIns := [], harness := (true, "955b595cc5385ef7a002e46dd68bcc84f6d549330109667ecef86e1e8b51a6b5"), looks := false }, kinds := [], alts := [], laidByText := true, laidKinds := [.data, .data, .data, .data, .data, .widerDeep, .pinned], laidTests := true, laidLooks := .later }
def OfficeStoriesCardSaid : Prop := Claim7.holds Tryz.pinned (.plain (OpenSpec.ofChange officeStoriesSpec)) officeStoriesCard

/-- THE SECOND FORM's CARD OF 'flyoverlaw10.OfficeEvents'. -/
def officeEventsUptoCard : Claim7 := { stood := { row := officeEventsUptoRow, standIns := [], harness := (true, "955b595cc5385ef7a002e46dd68bcc84f6d549330109667ecef86e1e8b51a6b5"), looks := false }, kinds := [], alts := [], laidByText := true, laidKinds := [.data, .data, .data, .data, .data, .widerDeep, .pinned], laidTests := true, laidLooks := .later }
def OfficeEventsUptoCardSaid : Prop := Claim7.holds Tryz.pinned (.plain (OpenSpec.upto officeEventsSpec)) officeEventsUptoCard

/-- THE SECOND FORM's CARD OF 'flyoverlaw10.OfficeNumbers'. -/
def officeNumbersUptoCard : Claim7 := { stood := { row := officeNumbersUptoRow, standIns := [], harness := (true, "955b595cc5385ef7a002e46dd68bcc84f6d549330109667ecef86e1e8b51a6b5"), looks := false }, kinds := [], alts := [], laidByText := true, laidKinds := [.data, .data, .data, .data, .data, .widerDeep, .pinned], laidTests := true, laidLooks := .later }
def OfficeNumbersUptoCardSaid : Prop := Claim7.holds Tryz.pinned (.plain (OpenSpec.upto officeNumbersSpec)) officeNumbersUptoCard

/-- THE SECOND FORM's CARD OF 'flyoverlaw10.OfficeChains'. -/
def officeChainsUptoCard : Claim7 := { stood := { row := officeChainsUptoRow, standIns := [], harness := (true, "955b595cc5385ef7a002e46dd68bcc84f6d549330109667ecef86e1e8b51a6b5"), looks := false }, kinds := [], alts := [], laidByText := true, laidKinds := [.data, .data, .data, .data, .data, .widerDeep, .pinned], laidTests := true, laidLooks := .later }
def OfficeChainsUptoCardSaid : Prop := Claim7.holds Tryz.pinned (.plain (OpenSpec.upto officeChainsSpec)) officeChainsUptoCard

/-- THE SECOND FORM's CARD OF 'flyoverlaw10.OfficeMaps'. -/
def officeMapsUptoCard : Claim7 := { stood := { row := officeMapsUptoRow, standIns := [], harness := (true, "955b595cc5385ef7a002e46dd68bcc84f6d549330109667ecef86e1e8b51a6b5"), looks := false }, kinds := [], alts := [], laidByText := true, laidKinds := [.data, .data, .data, .data, .data, .widerDeep, .pinned], laidTests := true, laidLooks := .later }
def OfficeMapsUptoCardSaid : Prop := Claim7.holds Tryz.pinned (.plain (OpenSpec.upto officeMapsSpec)) officeMapsUptoCard

/-- THE SECOND FORM's CARD OF 'flyoverlaw10.OfficeViews'. -/
def officeViewsUptoCard : Claim7 := { stood := { row := officeViewsUptoRow, standIns := [], harness := (true, "955b595cc5385ef7a002e46dd68bcc84f6d549330109667ecef86e1e8b51a6b5"), looks := false }, kinds := [], alts := [], laidByText := true, laidKinds := [.data, .data, .data, .data, .data, .widerDeep, .pinned], laidTests := true, laidLooks := .later }
def OfficeViewsUptoCardSaid : Prop := Claim7.holds Tryz.pinned (.plain (OpenSpec.upto officeViewsSpec)) officeViewsUptoCard

/-- THE SECOND FORM's CARD OF 'flyoverlaw10.OfficeLogs'. -/
def officeLogsUptoCard : Claim7 := { stood := { row := officeLogsUptoRow, standIns := [], harness := (true, "955b595cc5385ef7a002e46dd68bcc84f6d549330109667ecef86e1e8b51a6b5"), looks := false }, kinds := [], alts := [], laidByText := true, laidKinds := [.data, .data, .data, .data, .data, .widerDeep, .pinned], laidTests := true, laidLooks := .later }
def OfficeLogsUptoCardSaid : Prop := Claim7.holds Tryz.pinned (.plain (OpenSpec.upto officeLogsSpec)) officeLogsUptoCard

/-- THE SECOND FORM's CARD OF 'flyoverlaw10.OfficeProved'. -/
def officeProvedUptoCard : Claim7 := { stood := { row := officeProvedUptoRow, standIns := [], harness := (true, "955b595cc5385ef7a002e46dd68bcc84f6d549330109667ecef86e1e8b51a6b5"), looks := false }, kinds := [], alts := [], laidByText := true, laidKinds := [.data, .data, .data, .data, .data, .widerDeep, .pinned], laidTests := true, laidLooks := .later }
def OfficeProvedUptoCardSaid : Prop := Claim7.holds Tryz.pinned (.plain (OpenSpec.upto officeProvedSpec)) officeProvedUptoCard

/-- THE SECOND FORM's CARD OF 'flyoverlaw10.OfficeFixed'. -/
def officeFixedUptoCard : Claim7 := { stood := { row := officeFixedUptoRow, standIns := [], harness := (true, "955b595cc5385ef7a002e46dd68bcc84f6d549330109667ecef86e1e8b51a6b5"), looks := false }, kinds := [], alts := [], laidByText := true, laidKinds := [.data, .data, .data, .data, .data, .widerDeep, .pinned], laidTests := true, laidLooks := .later }
def OfficeFixedUptoCardSaid : Prop := Claim7.holds Tryz.pinned (.plain (OpenSpec.upto officeFixedSpec)) officeFixedUptoCard

/-- THE SECOND FORM's CARD OF 'flyoverlaw10.OfficeReplay'. -/
def officeReplayUptoCard : Claim7 := { stood := { row := officeReplayUptoRow, standIns := [], harness := (true, "955b595cc5385ef7a002e46dd68bcc84f6d549330109667ecef86e1e8b51a6b5"), looks := false }, kinds := [], alts := [], laidByText := true, laidKinds := [.data, .data, .data, .data, .data, .widerDeep, .pinned], laidTests := true, laidLooks := .later }
def OfficeReplayUptoCardSaid : Prop := Claim7.holds Tryz.pinned (.plain (OpenSpec.upto officeReplaySpec)) officeReplayUptoCard

/-- THE SECOND FORM's CARD OF 'flyoverlaw10.OfficeConsole'. -/
def officeConsoleUptoCard : Claim7 := { stood := { row := officeConsoleUptoRow, standIns := [], harness := (true, "955b595cc5385ef7a002e46dd68bcc84f6d549330109667ecef86e1e8b51a6b5"), looks := false }, kinds := [], alts := [], laidByText := true, laidKinds := [.data, .data, .data, .data, .data, .widerDeep, .pinned], laidTests := true, laidLooks := .later }
def OfficeConsoleUptoCardSaid : Prop := Claim7.holds Tryz.pinned (.plain (OpenSpec.upto officeConsoleSpec)) officeConsoleUptoCard

/-- THE SECOND FORM's CARD OF 'flyoverlaw10.OfficeCut'. -/
def officeCutUptoCard : Claim7 := { stood := { row := officeCutUptoRow, standIns := [], harness := (true, "955b595cc5385ef7a002e46dd68bcc84f6d549330109667ecef86e1e8b51a6b5"), looks := false }, kinds := [], alts := [], laidByText := true, laidKinds := [.data, .data, .data, .data, .data, .widerDeep, .pinned], laidTests := true, laidLooks := .later }
def OfficeCutUptoCardSaid : Prop := Claim7.holds Tryz.pinned (.plain (OpenSpec.upto officeCutSpec)) officeCutUptoCard

/-- THE SECOND FORM's CARD OF 'flyoverlaw10.OfficeStories'. -/
def officeStoriesUptoCard : Claim7 := { stood := { row := officeStoriesUptoRow, standIns := [], harness := (true, "955b595cc5385ef7a002e46dd68bcc84f6d549330109667ecef86e1e8b51a6b5"), looks := false }, kinds := [], alts := [], laidByText := true, laidKinds := [.data, .data, .data, .data, .data, .widerDeep, .pinned], laidTests := true, laidLooks := .later }
def OfficeStoriesUptoCardSaid : Prop := Claim7.holds Tryz.pinned (.plain (OpenSpec.upto officeStoriesSpec)) officeStoriesUptoCard
end Rows
end Go.Proofs.YtkfbgillhhhdgaaGreatDoor
