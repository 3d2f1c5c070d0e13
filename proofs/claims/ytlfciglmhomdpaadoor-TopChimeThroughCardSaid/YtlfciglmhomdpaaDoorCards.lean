/-
  DERIVED. GIVEN WITH THE SEED: THE CARDS: each row of YtlfciglmhomdpaaDoorRows.lean that lists a variable, with what it lists TIED to the program's text (the seventh form; the later family's looks); each row that meets fmt, with fmt's text TOLD by the authors' own Lean function (tested against real Go, not proved from fmt's source: count such statements apart). THE CARD IS WHAT COUNTS. Prove the row's statement (the work); the ties are given (YtlfciglmhomdpaaDoorTie.lean); close each card by the builder's one call (the guide's Derived/Test/ToyasCard.lean, 'card_holds'). Laid BY PROGRAM, IN A SANDBOX (cutbox-door.mjs). By AI agents, Wed Nov 11 2026. No macro, syntax, notation, axiom, sorry.
-/
import Derived.Test.YtlfciglmhomdpaaDoorRows
import GoSem.ClaimSeven
namespace Go.Proofs.YtlfciglmhomdpaaDoor
namespace Rows

/-- THE TIED CARD OF 'flyovertop.TopChimeThrough'. -/
def topChimeThroughCard : Claim7 := { stood := { row := topChimeThroughRow, standIns := [], harness := (true, "9a4117155a15782a9b3e1740069a34fcbab7de33ed568ef1ffc6b1cfaaae380c"), looks := false }, kinds := [], alts := [], laidByText := true, laidKinds := [.data], laidTests := true, laidLooks := .later }
def TopChimeThroughCardSaid : Prop := Claim7.holds Tryd.pinned (.plain (OpenSpec.ofChange topChimeThroughSpec)) topChimeThroughCard

/-- THE SECOND FORM's CARD OF 'flyovertop.TopChimeThrough'. -/
def topChimeThroughUptoCard : Claim7 := { stood := { row := topChimeThroughUptoRow, standIns := [], harness := (true, "9a4117155a15782a9b3e1740069a34fcbab7de33ed568ef1ffc6b1cfaaae380c"), looks := false }, kinds := [], alts := [], laidByText := true, laidKinds := [.data], laidTests := true, laidLooks := .later }
def TopChimeThroughUptoCardSaid : Prop := Claim7.holds Tryd.pinned (.plain (OpenSpec.upto topChimeThroughSpec)) topChimeThroughUptoCard
end Rows
end Go.Proofs.YtlfciglmhomdpaaDoor
