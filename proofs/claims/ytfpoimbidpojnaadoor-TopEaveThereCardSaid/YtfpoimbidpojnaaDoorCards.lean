/-
  DERIVED. GIVEN WITH THE SEED: THE CARDS: each row of YtfpoimbidpojnaaDoorRows.lean that lists a variable, with what it lists TIED to the program's text (the seventh form; the later family's looks); each row that meets fmt, with fmt's text TOLD by the authors' own Lean function (tested against real Go, not proved from fmt's source: count such statements apart). THE CARD IS WHAT COUNTS. Prove the row's statement (the work); the ties are given (YtfpoimbidpojnaaDoorTie.lean); close each card by the builder's one call (the guide's Derived/Test/ToyasCard.lean, 'card_holds'). Laid BY PROGRAM, IN A SANDBOX (cutbox-door.mjs). By AI agents, Wed Nov 11 2026. No macro, syntax, notation, axiom, sorry.
-/
import Derived.Test.YtfpoimbidpojnaaDoorRows
import GoSem.ClaimSeven
namespace Go.Proofs.YtfpoimbidpojnaaDoor
namespace Rows

/-- THE TIED CARD OF 'flyovertop.TopEaveThere'. -/
def topEaveThereCard : Claim7 := { stood := { row := topEaveThereRow, standIns := [], harness := (true, "bb600434a3fa8d596dad18af2924060f5d8dff5839807be886fc7396a7bd2804"), looks := false }, kinds := [], alts := [], laidByText := true, laidKinds := [.funcs], laidTests := true, laidLooks := .later }
def TopEaveThereCardSaid : Prop := Claim7.holds Tryd.pinned (.plain (OpenSpec.ofChange topEaveThereSpec)) topEaveThereCard

/-- THE SECOND FORM's CARD OF 'flyovertop.TopEaveThere'. -/
def topEaveThereUptoCard : Claim7 := { stood := { row := topEaveThereUptoRow, standIns := [], harness := (true, "bb600434a3fa8d596dad18af2924060f5d8dff5839807be886fc7396a7bd2804"), looks := false }, kinds := [], alts := [], laidByText := true, laidKinds := [.funcs], laidTests := true, laidLooks := .later }
def TopEaveThereUptoCardSaid : Prop := Claim7.holds Tryd.pinned (.plain (OpenSpec.upto topEaveThereSpec)) topEaveThereUptoCard
end Rows
end Go.Proofs.YtfpoimbidpojnaaDoor
