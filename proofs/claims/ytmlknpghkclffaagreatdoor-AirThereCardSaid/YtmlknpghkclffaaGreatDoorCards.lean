/-
  DERIVED. GIVEN WITH THE SEED: THE CARDS: each row of YtmlknpghkclffaaGreatDoorRows.lean that lists a variable, with what it lists TIED to the program's text (the seventh form; the later family's looks); each row that meets fmt, with fmt's text TOLD by the authors' own Lean function (tested against real Go, not proved from fmt's source: count such statements apart). THE CARD IS WHAT COUNTS. Prove the row's statement (the work); the ties are given (YtmlknpghkclffaaGreatDoorTie.lean); close each card by the builder's one call (the guide's Derived/Test/ToyasCard.lean, 'card_holds'). Laid BY PROGRAM, IN A SANDBOX (cutbox-door.mjs). By AI agents, Wed Nov 11 2026. No macro, syntax, notation, axiom, sorry.
-/
import Derived.Test.YtmlknpghkclffaaGreatDoorRows
import GoSem.ClaimSeven
namespace Go.Proofs.YtmlknpghkclffaaGreatDoor
namespace Rows

/-- THE TIED CARD OF 'flyoverlaw03.AirLayers'. -/
def airLayersCard : Claim7 := { stood := { row := airLayersRow, standIns := [], harness := (true, "66d0582e18504ee9aac4bf1645eacc50a7efb963dd650fe83538e45d9cfbe65e"), looks := false }, kinds := [], alts := [], laidByText := true, laidKinds := [.data, .data, .data, .data], laidTests := true, laidLooks := .later }
def AirLayersCardSaid : Prop := Claim7.holds Tryz.pinned (.plain (OpenSpec.ofChange airLayersSpec)) airLayersCard

/-- THE TIED CARD OF 'flyoverlaw03.AirPaths'. -/
def airPathsCard : Claim7 := { stood := { row := airPathsRow, standIns := [], harness := (true, "66d0582e18504ee9aac4bf1645eacc50a7efb963dd650fe83538e45d9cfbe65e"), looks := false }, kinds := [], alts := [], laidByText := true, laidKinds := [.data, .data, .data, .data], laidTests := true, laidLooks := .later }
def AirPathsCardSaid : Prop := Claim7.holds Tryz.pinned (.plain (OpenSpec.ofChange airPathsSpec)) airPathsCard

/-- THE TIED CARD OF 'flyoverlaw03.AirPassed'. -/
def airPassedCard : Claim7 := { stood := { row := airPassedRow, standIns := [], harness := (true, "66d0582e18504ee9aac4bf1645eacc50a7efb963dd650fe83538e45d9cfbe65e"), looks := false }, kinds := [], alts := [], laidByText := true, laidKinds := [.data, .data, .data, .data], laidTests := true, laidLooks := .later }
def AirPassedCardSaid : Prop := Claim7.holds Tryz.pinned (.plain (OpenSpec.ofChange airPassedSpec)) airPassedCard

/-- THE TIED CARD OF 'flyoverlaw03.AirArrived'. -/
def airArrivedCard : Claim7 := { stood := { row := airArrivedRow, standIns := [], harness := (true, "66d0582e18504ee9aac4bf1645eacc50a7efb963dd650fe83538e45d9cfbe65e"), looks := false }, kinds := [], alts := [], laidByText := true, laidKinds := [.data, .data, .data, .data], laidTests := true, laidLooks := .later }
def AirArrivedCardSaid : Prop := Claim7.holds Tryz.pinned (.plain (OpenSpec.ofChange airArrivedSpec)) airArrivedCard

/-- THE TIED CARD OF 'flyoverlaw03.AirWinds'. -/
def airWindsCard : Claim7 := { stood := { row := airWindsRow, standIns := [], harness := (true, "66d0582e18504ee9aac4bf1645eacc50a7efb963dd650fe83538e45d9cfbe65e"), looks := false }, kinds := [], alts := [], laidByText := true, laidKinds := [.data, .data, .data, .data], laidTests := true, laidLooks := .later }
def AirWindsCardSaid : Prop := Claim7.holds Tryz.pinned (.plain (OpenSpec.ofChange airWindsSpec)) airWindsCard

/-- THE TIED CARD OF 'flyoverlaw03.AirBent'. -/
def airBentCard : Claim7 := { stood := { row := airBentRow, standIns := [], harness := (true, "66d0582e18504ee9aac4bf1645eacc50a7efb963dd650fe83538e45d9cfbe65e"), looks := false }, kinds := [], alts := [], laidByText := true, laidKinds := [.data, .data, .data, .data], laidTests := true, laidLooks := .later }
def AirBentCardSaid : Prop := Claim7.holds Tryz.pinned (.plain (OpenSpec.ofChange airBentSpec)) airBentCard

/-- THE TIED CARD OF 'flyoverlaw03.AirThere'. -/
def airThereCard : Claim7 := { stood := { row := airThereRow, standIns := [], harness := (true, "66d0582e18504ee9aac4bf1645eacc50a7efb963dd650fe83538e45d9cfbe65e"), looks := false }, kinds := [], alts := [], laidByText := true, laidKinds := [.data, .data, .data, .data], laidTests := true, laidLooks := .later }
def AirThereCardSaid : Prop := Claim7.holds Tryz.pinned (.plain (OpenSpec.ofChange airThereSpec)) airThereCard

/-- THE TIED CARD OF 'flyoverlaw03.AirParts'. -/
def airPartsCard : Claim7 := { stood := { row := airPartsRow, standIns := [], harness := (true, "66d0582e18504ee9aac4bf1645eacc50a7efb963dd650fe83538e45d9cfbe65e"), looks := false }, kinds := [], alts := [], laidByText := true, laidKinds := [.data, .data, .data, .data], laidTests := true, laidLooks := .later }
def AirPartsCardSaid : Prop := Claim7.holds Tryz.pinned (.plain (OpenSpec.ofChange airPartsSpec)) airPartsCard

/-- THE TIED CARD OF 'flyoverlaw03.AirExplained'. -/
def airExplainedCard : Claim7 := { stood := { row := airExplainedRow, standIns := [], harness := (true, "66d0582e18504ee9aac4bf1645eacc50a7efb963dd650fe83538e45d9cfbe65e"), looks := false }, kinds := [], alts := [], laidByText := true, laidKinds := [.data, .data, .data, .data], laidTests := true, laidLooks := .later }
def AirExplainedCardSaid : Prop := Claim7.holds Tryz.pinned (.plain (OpenSpec.ofChange airExplainedSpec)) airExplainedCard

/-- THE TIED CARD OF 'flyoverlaw03.AirEchoes'. -/
def airEchoesCard : Claim7 := { stood := { row := airEchoesRow, standIns := [], harness := (true, "66d0582e18504ee9aac4bf1645eacc50a7efb963dd650fe83538e45d9cfbe65e"), looks := false }, kinds := [], alts := [], laidByText := true, laidKinds := [.data, .data, .data, .data], laidTests := true, laidLooks := .later }
def AirEchoesCardSaid : Prop := Claim7.holds Tryz.pinned (.plain (OpenSpec.ofChange airEchoesSpec)) airEchoesCard

/-- THE TIED CARD OF 'flyoverlaw03.AirStrings'. -/
def airStringsCard : Claim7 := { stood := { row := airStringsRow, standIns := [], harness := (true, "66d0582e18504ee9aac4bf1645eacc50a7efb963dd650fe83538e45d9cfbe65e"), looks := false }, kinds := [], alts := [], laidByText := true, laidKinds := [.data, .data, .data, .data, .data, .pinned], laidTests := true, laidLooks := .later }
def AirStringsCardSaid : Prop := Claim7.holds Tryz.pinned (.plain (OpenSpec.ofChange airStringsSpec)) airStringsCard

/-- THE TIED CARD OF 'flyoverlaw03.AirBack'. -/
def airBackCard : Claim7 := { stood := { row := airBackRow, standIns := [], harness := (true, "66d0582e18504ee9aac4bf1645eacc50a7efb963dd650fe83538e45d9cfbe65e"), looks := false }, kinds := [], alts := [], laidByText := true, laidKinds := [.data, .data, .data, .data, .data, .pinned], laidTests := true, laidLooks := .later }
def AirBackCardSaid : Prop := Claim7.holds Tryz.pinned (.plain (OpenSpec.ofChange airBackSpec)) airBackCard

/-- THE SECOND FORM's CARD OF 'flyoverlaw03.AirLayers'. -/
def airLayersUptoCard : Claim7 := { stood := { row := airLayersUptoRow, standIns := [], harness := (true, "66d0582e18504ee9aac4bf1645eacc50a7efb963dd650fe83538e45d9cfbe65e"), looks := false }, kinds := [], alts := [], laidByText := true, laidKinds := [.data, .data, .data, .data], laidTests := true, laidLooks := .later }
def AirLayersUptoCardSaid : Prop := Claim7.holds Tryz.pinned (.plain (OpenSpec.upto airLayersSpec)) airLayersUptoCard

/-- THE SECOND FORM's CARD OF 'flyoverlaw03.AirPaths'. -/
def airPathsUptoCard : Claim7 := { stood := { row := airPathsUptoRow, standIns := [], harness := (true, "66d0582e18504ee9aac4bf1645eacc50a7efb963dd650fe83538e45d9cfbe65e"), looks := false }, kinds := [], alts := [], laidByText := true, laidKinds := [.data, .data, .data, .data], laidTests := true, laidLooks := .later }
def AirPathsUptoCardSaid : Prop := Claim7.holds Tryz.pinned (.plain (OpenSpec.upto airPathsSpec)) airPathsUptoCard

/-- THE SECOND FORM's CARD OF 'flyoverlaw03.AirPassed'. -/
def airPassedUptoCard : Claim7 := { stood := { row := airPassedUptoRow, standIns := [], harness := (true, "66d0582e18504ee9aac4bf1645eacc50a7efb963dd650fe83538e45d9cfbe65e"), looks := false }, kinds := [], alts := [], laidByText := true, laidKinds := [.data, .data, .data, .data], laidTests := true, laidLooks := .later }
def AirPassedUptoCardSaid : Prop := Claim7.holds Tryz.pinned (.plain (OpenSpec.upto airPassedSpec)) airPassedUptoCard

/-- THE SECOND FORM's CARD OF 'flyoverlaw03.AirArrived'. -/
def airArrivedUptoCard : Claim7 := { stood := { row := airArrivedUptoRow, standIns := [], harness := (true, "66d0582e18504ee9aac4bf1645eacc50a7efb963dd650fe83538e45d9cfbe65e"), looks := false }, kinds := [], alts := [], laidByText := true, laidKinds := [.data, .data, .data, .data], laidTests := true, laidLooks := .later }
def AirArrivedUptoCardSaid : Prop := Claim7.holds Tryz.pinned (.plain (OpenSpec.upto airArrivedSpec)) airArrivedUptoCard

/-- THE SECOND FORM's CARD OF 'flyoverlaw03.AirWinds'. -/
def airWindsUptoCard : Claim7 := { stood := { row := airWindsUptoRow, standIns := [], harness := (true, "66d0582e18504ee9aac4bf1645eacc50a7efb963dd650fe83538e45d9cfbe65e"), looks := false }, kinds := [], alts := [], laidByText := true, laidKinds := [.data, .data, .data, .data], laidTests := true, laidLooks := .later }
def AirWindsUptoCardSaid : Prop := Claim7.holds Tryz.pinned (.plain (OpenSpec.upto airWindsSpec)) airWindsUptoCard

/-- THE SECOND FORM's CARD OF 'flyoverlaw03.AirBent'. -/
def airBentUptoCard : Claim7 := { stood := { row := airBentUptoRow, standIns := [], harness := (true, "66d0582e18504ee9aac4bf1645eacc50a7efb963dd650fe83538e45d9cfbe65e"), looks := false }, kinds := [], alts := [], laidByText := true, laidKinds := [.data, .data, .data, .data], laidTests := true, laidLooks := .later }
def AirBentUptoCardSaid : Prop := Claim7.holds Tryz.pinned (.plain (OpenSpec.upto airBentSpec)) airBentUptoCard

/-- THE SECOND FORM's CARD OF 'flyoverlaw03.AirThere'. -/
def airThereUptoCard : Claim7 := { stood := { row := airThereUptoRow, standIns := [], harness := (true, "66d0582e18504ee9aac4bf1645eacc50a7efb963dd650fe83538e45d9cfbe65e"), looks := false }, kinds := [], alts := [], laidByText := true, laidKinds := [.data, .data, .data, .data], laidTests := true, laidLooks := .later }
def AirThereUptoCardSaid : Prop := Claim7.holds Tryz.pinned (.plain (OpenSpec.upto airThereSpec)) airThereUptoCard

/-- THE SECOND FORM's CARD OF 'flyoverlaw03.AirParts'. -/
def airPartsUptoCard : Claim7 := { stood := { row := airPartsUptoRow, standIns := [], harness := (true, "66d0582e18504ee9aac4bf1645eacc50a7efb963dd650fe83538e45d9cfbe65e"), looks := false }, kinds := [], alts := [], laidByText := true, laidKinds := [.data, .data, .data, .data], laidTests := true, laidLooks := .later }
def AirPartsUptoCardSaid : Prop := Claim7.holds Tryz.pinned (.plain (OpenSpec.upto airPartsSpec)) airPartsUptoCard

/-- THE SECOND FORM's CARD OF 'flyoverlaw03.AirExplained'. -/
def airExplainedUptoCard : Claim7 := { stood := { row := airExplainedUptoRow, standIns := [], harness := (true, "66d0582e18504ee9aac4bf1645eacc50a7efb963dd650fe83538e45d9cfbe65e"), looks := false }, kinds := [], alts := [], laidByText := true, laidKinds := [.data, .data, .data, .data], laidTests := true, laidLooks := .later }
def AirExplainedUptoCardSaid : Prop := Claim7.holds Tryz.pinned (.plain (OpenSpec.upto airExplainedSpec)) airExplainedUptoCard

/-- THE SECOND FORM's CARD OF 'flyoverlaw03.AirEchoes'. -/
def airEchoesUptoCard : Claim7 := { stood := { row := airEchoesUptoRow, standIns := [], harness := (true, "66d0582e18504ee9aac4bf1645eacc50a7efb963dd650fe83538e45d9cfbe65e"), looks := false }, kinds := [], alts := [], laidByText := true, laidKinds := [.data, .data, .data, .data], laidTests := true, laidLooks := .later }
def AirEchoesUptoCardSaid : Prop := Claim7.holds Tryz.pinned (.plain (OpenSpec.upto airEchoesSpec)) airEchoesUptoCard

/-- THE SECOND FORM's CARD OF 'flyoverlaw03.AirStrings'. -/
def airStringsUptoCard : Claim7 := { stood := { row := airStringsUptoRow, standIns := [], harness := (true, "66d0582e18504ee9aac4bf1645eacc50a7efb963dd650fe83538e45d9cfbe65e"), looks := false }, kinds := [], alts := [], laidByText := true, laidKinds := [.data, .data, .data, .data, .data, .pinned], laidTests := true, laidLooks := .later }
def AirStringsUptoCardSaid : Prop := Claim7.holds Tryz.pinned (.plain (OpenSpec.upto airStringsSpec)) airStringsUptoCard

/-- THE SECOND FORM's CARD OF 'flyoverlaw03.AirBack'. -/
def airBackUptoCard : Claim7 := { stood := { row := airBackUptoRow, standIns := [], harness := (true, "66d0582e18504ee9aac4bf1645eacc50a7efb963dd650fe83538e45d9cfbe65e"), looks := false }, kinds := [], alts := [], laidByText := true, laidKinds := [.data, .data, .data, .data, .data, .pinned], laidTests := true, laidLooks := .later }
def AirBackUptoCardSaid : Prop := Claim7.holds Tryz.pinned (.plain (OpenSpec.upto airBackSpec)) airBackUptoCard
end Rows
end Go.Proofs.YtmlknpghkclffaaGreatDoor
