/-
  DERIVED. GIVEN WITH THE SEED: THE CARDS: each row of YtfcdodaakhlppaaGreatDoorRows.lean that lists a variable, with what it lists TIED to the program's text (the seventh form; the later family's looks); each row that meets fmt, with fmt's text TOLD by the authors' own Lean function (tested against real Go, not proved from fmt's source: count such statements apart). THE CARD IS WHAT COUNTS. Prove the row's statement (the work); the ties are given (YtfcdodaakhlppaaGreatDoorTie.lean); close each card by the builder's one call (the guide's Derived/Test/ToyasCard.lean, 'card_holds'). Laid BY PROGRAM, IN A SANDBOX (cutbox-door.mjs). By AI agents, Wed Nov 11 2026. No macro, syntax, notation, axiom, sorry.
-/
import Derived.Test.YtfcdodaakhlppaaGreatDoorRows
import GoSem.ClaimSeven
namespace Go.Proofs.YtfcdodaakhlppaaGreatDoor
namespace Rows

/-- THE TIED CARD OF 'flyovertop.TopEaveFund'. -/
def topEaveFundCard : Claim7 := { stood := { row := topEaveFundRow, standIns := [], harness := (true, "cfaf34fee6348ee4ac7bb1406ec08f07360e7737374fc528f5a93e653cb05839"), looks := false }, kinds := [], alts := [], laidByText := true, laidKinds := [.data, .widerDeep], laidTests := true, laidLooks := .later }
def TopEaveFundCardSaid : Prop := Claim7.holds Tryz.pinned (.plain (OpenSpec.ofChange topEaveFundSpec)) topEaveFundCard

/-- THE TIED CARD OF 'flyovertop.TopEaveNumber'. -/
def topEaveNumberCard : Claim7 := { stood := { row := topEaveNumberRow, standIns := [], harness := (true, "cfaf34fee6348ee4ac7bb1406ec08f07360e7737374fc528f5a93e653cb05839"), looks := false }, kinds := [], alts := [], laidByText := true, laidKinds := [.data, .widerDeep], laidTests := true, laidLooks := .later }
def TopEaveNumberCardSaid : Prop := Claim7.holds Tryz.pinned (.plain (OpenSpec.ofChange topEaveNumberSpec)) topEaveNumberCard

/-- THE TIED CARD OF 'flyovertop.TopEaveAnswered'. -/
def topEaveAnsweredCard : Claim7 := { stood := { row := topEaveAnsweredRow, standIns := [], harness := (true, "cfaf34fee6348ee4ac7bb1406ec08f07360e7737374fc528f5a93e653cb05839"), looks := false }, kinds := [], alts := [], laidByText := true, laidKinds := [.data, .data, .widerDeep], laidTests := true, laidLooks := .later }
def TopEaveAnsweredCardSaid : Prop := Claim7.holds Tryz.pinned (.plain (OpenSpec.ofChange topEaveAnsweredSpec)) topEaveAnsweredCard

/-- THE TIED CARD OF 'flyovertop.TopEaveFollowed'. -/
def topEaveFollowedCard : Claim7 := { stood := { row := topEaveFollowedRow, standIns := [], harness := (true, "cfaf34fee6348ee4ac7bb1406ec08f07360e7737374fc528f5a93e653cb05839"), looks := false }, kinds := [], alts := [], laidByText := true, laidKinds := [.data, .data, .data, .data, .data, .data, .widerDeep, .pinned], laidTests := true, laidLooks := .later }
def TopEaveFollowedCardSaid : Prop := Claim7.holds Tryz.pinned (.plain (OpenSpec.ofChange topEaveFollowedSpec)) topEaveFollowedCard

/-- THE SECOND FORM's CARD OF 'flyovertop.TopEaveFund'. -/
def topEaveFundUptoCard : Claim7 := { stood := { row := topEaveFundUptoRow, standIns := [], harness := (true, "cfaf34fee6348ee4ac7bb1406ec08f07360e7737374fc528f5a93e653cb05839"), looks := false }, kinds := [], alts := [], laidByText := true, laidKinds := [.data, .widerDeep], laidTests := true, laidLooks := .later }
def TopEaveFundUptoCardSaid : Prop := Claim7.holds Tryz.pinned (.plain (OpenSpec.upto topEaveFundSpec)) topEaveFundUptoCard

/-- THE SECOND FORM's CARD OF 'flyovertop.TopEaveNumber'. -/
def topEaveNumberUptoCard : Claim7 := { stood := { row := topEaveNumberUptoRow, standIns := [], harness := (true, "cfaf34fee6348ee4ac7bb1406ec08f07360e7737374fc528f5a93e653cb05839"), looks := false }, kinds := [], alts := [], laidByText := true, laidKinds := [.data, .widerDeep], laidTests := true, laidLooks := .later }
def TopEaveNumberUptoCardSaid : Prop := Claim7.holds Tryz.pinned (.plain (OpenSpec.upto topEaveNumberSpec)) topEaveNumberUptoCard

/-- THE SECOND FORM's CARD OF 'flyovertop.TopEaveAnswered'. -/
def topEaveAnsweredUptoCard : Claim7 := { stood := { row := topEaveAnsweredUptoRow, standIns := [], harness := (true, "cfaf34fee6348ee4ac7bb1406ec08f07360e7737374fc528f5a93e653cb05839"), looks := false }, kinds := [], alts := [], laidByText := true, laidKinds := [.data, .data, .widerDeep], laidTests := true, laidLooks := .later }
def TopEaveAnsweredUptoCardSaid : Prop := Claim7.holds Tryz.pinned (.plain (OpenSpec.upto topEaveAnsweredSpec)) topEaveAnsweredUptoCard

/-- THE SECOND FORM's CARD OF 'flyovertop.TopEaveFollowed'. -/
def topEaveFollowedUptoCard : Claim7 := { stood := { row := topEaveFollowedUptoRow, standIns := [], harness := (true, "cfaf34fee6348ee4ac7bb1406ec08f07360e7737374fc528f5a93e653cb05839"), looks := false }, kinds := [], alts := [], laidByText := true, laidKinds := [.data, .data, .data, .data, .data, .data, .widerDeep, .pinned], laidTests := true, laidLooks := .later }
def TopEaveFollowedUptoCardSaid : Prop := Claim7.holds Tryz.pinned (.plain (OpenSpec.upto topEaveFollowedSpec)) topEaveFollowedUptoCard
end Rows
end Go.Proofs.YtfcdodaakhlppaaGreatDoor
