/-
  DERIVED. GIVEN WITH THE SEED: THE CARDS: each row of YtfpoimbidpojnaaGreatDoorRows.lean that lists a variable, with what it lists TIED to the program's text (the seventh form; the later family's looks); each row that meets fmt, with fmt's text TOLD by the authors' own Lean function (tested against real Go, not proved from fmt's source: count such statements apart). THE CARD IS WHAT COUNTS. Prove the row's statement (the work); the ties are given (YtfpoimbidpojnaaGreatDoorTie.lean); close each card by the builder's one call (the guide's Derived/Test/ToyasCard.lean, 'card_holds'). Laid BY PROGRAM, IN A SANDBOX (cutbox-door.mjs). By AI agents, Wed Nov 11 2026. No macro, syntax, notation, axiom, sorry.
-/
import Derived.Test.YtfpoimbidpojnaaGreatDoorRows
import GoSem.ClaimSeven
namespace Go.Proofs.YtfpoimbidpojnaaGreatDoor
namespace Rows

/-- THE TIED CARD OF 'flyovertop.TopEaveEchoes'. -/
def topEaveEchoesCard : Claim7 := { stood := { row := topEaveEchoesRow, standIns := [], harness := (true, "04f518f3d01aa975fd99dc19582004ca98be4a5287e1c54ecf07f494772baf17"), looks := false }, kinds := [], alts := [], laidByText := true, laidKinds := [.funcs], laidTests := true, laidLooks := .later }
def TopEaveEchoesCardSaid : Prop := Claim7.holds Tryz.pinned (.plain (OpenSpec.ofChange topEaveEchoesSpec)) topEaveEchoesCard

/-- THE SECOND FORM's CARD OF 'flyovertop.TopEaveEchoes'. -/
def topEaveEchoesUptoCard : Claim7 := { stood := { row := topEaveEchoesUptoRow, standIns := [], harness := (true, "04f518f3d01aa975fd99dc19582004ca98be4a5287e1c54ecf07f494772baf17"), looks := false }, kinds := [], alts := [], laidByText := true, laidKinds := [.funcs], laidTests := true, laidLooks := .later }
def TopEaveEchoesUptoCardSaid : Prop := Claim7.holds Tryz.pinned (.plain (OpenSpec.upto topEaveEchoesSpec)) topEaveEchoesUptoCard
end Rows
end Go.Proofs.YtfpoimbidpojnaaGreatDoor
