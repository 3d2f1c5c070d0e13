/- MADE BY PROGRAM (genen.py). -/
import Derived.Test.YtlfciglmhomdpaaSDr
import Derived.Test.YtlfciglmhomdpaaAD
set_option linter.unusedSimpArgs false
set_option linter.unusedVariables false
namespace Go.Fly.Try
open Go
theorem en2 : Enters Proofs.Try.prog 2 := enters_of Proofs.Try.func2 rfl rfl
theorem en3 : Enters Proofs.Try.prog 3 := enters_of Proofs.Try.func3 rfl rfl
theorem en4 : Enters Proofs.Try.prog 4 := enters_of Proofs.Try.func4 rfl rfl
theorem en5 : Enters Proofs.Try.prog 5 := enters_of Proofs.Try.func5 rfl rfl
theorem en6 : Enters Proofs.Try.prog 6 := enters_of Proofs.Try.func6 rfl rfl
theorem en7 : Enters Proofs.Try.prog 7 := enters_of Proofs.Try.func7 rfl rfl
theorem en8 : Enters Proofs.Try.prog 8 := enters_of Proofs.Try.func8 rfl rfl
theorem en9 : Enters Proofs.Try.prog 9 := enters_of Proofs.Try.func9 rfl rfl
theorem en10 : Enters Proofs.Try.prog 10 := enters_of Proofs.Try.func10 rfl rfl
theorem en11 : Enters Proofs.Try.prog 11 := enters_of Proofs.Try.func11 rfl rfl
theorem en12 : Enters Proofs.Try.prog 12 := enters_of Proofs.Try.func12 rfl rfl
theorem en13 : Enters Proofs.Try.prog 13 := enters_of Proofs.Try.func13 rfl rfl
theorem en14 : Enters Proofs.Try.prog 14 := enters_of Proofs.Try.func14 rfl rfl
theorem en15 : Enters Proofs.Try.prog 15 := enters_of Proofs.Try.func15 rfl rfl
theorem en16 : Enters Proofs.Try.prog 16 := enters_of Proofs.Try.func16 rfl rfl
theorem en17 : Enters Proofs.Try.prog 17 := enters_of Proofs.Try.func17 rfl rfl
theorem en18 : Enters Proofs.Try.prog 18 := enters_of Proofs.Try.func18 rfl rfl
theorem en19 : Enters Proofs.Try.prog 19 := enters_of Proofs.Try.func19 rfl rfl
theorem en20 : Enters Proofs.Try.prog 20 := enters_of Proofs.Try.func20 rfl rfl
theorem en21 : Enters Proofs.Try.prog 21 := enters_of Proofs.Try.func21 rfl rfl
theorem en22 : Enters Proofs.Try.prog 22 := enters_of Proofs.Try.func22 rfl rfl
theorem en23 : Enters Proofs.Try.prog 23 := enters_of Proofs.Try.func23 rfl rfl
theorem en24 : Enters Proofs.Try.prog 24 := enters_of Proofs.Try.func24 rfl rfl
theorem en25 : Enters Proofs.Try.prog 25 := enters_of Proofs.Try.func25 rfl rfl
theorem en26 : Enters Proofs.Try.prog 26 := enters_of Proofs.Try.func26 rfl rfl
theorem en27 : Enters Proofs.Try.prog 27 := enters_of Proofs.Try.func27 rfl rfl
theorem en28 : Enters Proofs.Try.prog 28 := enters_of Proofs.Try.func28 rfl rfl
theorem en29 : Enters Proofs.Try.prog 29 := enters_of Proofs.Try.func29 rfl rfl
theorem en30 : Enters Proofs.Try.prog 30 := enters_of Proofs.Try.func30 rfl rfl
theorem en31 : Enters Proofs.Try.prog 31 := enters_of Proofs.Try.func31 rfl rfl
theorem en32 : Enters Proofs.Try.prog 32 := enters_of Proofs.Try.func32 rfl rfl
theorem en33 : Enters Proofs.Try.prog 33 := enters_of Proofs.Try.func33 rfl rfl
theorem en34 : Enters Proofs.Try.prog 34 := enters_of Proofs.Try.func34 rfl rfl
theorem en35 : Enters Proofs.Try.prog 35 := enters_of Proofs.Try.func35 rfl rfl
theorem en36 : Enters Proofs.Try.prog 36 := enters_of Proofs.Try.func36 rfl rfl
theorem en37 : Enters Proofs.Try.prog 37 := enters_of Proofs.Try.func37 rfl rfl
theorem en38 : Enters Proofs.Try.prog 38 := enters_of Proofs.Try.func38 rfl rfl
theorem en39 : Enters Proofs.Try.prog 39 := enters_of Proofs.Try.func39 rfl rfl
theorem en40 : Enters Proofs.Try.prog 40 := enters_of Proofs.Try.func40 rfl rfl
theorem en41 : Enters Proofs.Try.prog 41 := enters_of Proofs.Try.func41 rfl rfl
theorem en42 : Enters Proofs.Try.prog 42 := enters_of Proofs.Try.func42 rfl rfl
theorem en43 : Enters Proofs.Try.prog 43 := enters_of Proofs.Try.func43 rfl rfl
theorem en44 : Enters Proofs.Try.prog 44 := enters_of Proofs.Try.func44 rfl rfl
theorem en45 : Enters Proofs.Try.prog 45 := enters_of Proofs.Try.func45 rfl rfl
theorem en46 : Enters Proofs.Try.prog 46 := enters_of Proofs.Try.func46 rfl rfl
theorem en47 : Enters Proofs.Try.prog 47 := enters_of Proofs.Try.func47 rfl rfl
theorem en48 : Enters Proofs.Try.prog 48 := enters_of Proofs.Try.func48 rfl rfl
theorem en49 : Enters Proofs.Try.prog 49 := enters_of Proofs.Try.func49 rfl rfl
theorem en50 : Enters Proofs.Try.prog 50 := enters_of Proofs.Try.func50 rfl rfl
theorem en51 : Enters Proofs.Try.prog 51 := enters_of Proofs.Try.func51 rfl rfl
theorem en52 : Enters Proofs.Try.prog 52 := enters_of Proofs.Try.func52 rfl rfl
theorem en53 : Enters Proofs.Try.prog 53 := enters_of Proofs.Try.func53 rfl rfl
theorem en54 : Enters Proofs.Try.prog 54 := enters_of Proofs.Try.func54 rfl rfl
theorem en55 : Enters Proofs.Try.prog 55 := enters_of Proofs.Try.func55 rfl rfl
theorem en56 : Enters Proofs.Try.prog 56 := enters_of Proofs.Try.func56 rfl rfl
theorem en57 : Enters Proofs.Try.prog 57 := enters_of Proofs.Try.func57 rfl rfl
theorem en58 : Enters Proofs.Try.prog 58 := enters_of Proofs.Try.func58 rfl rfl
theorem en59 : Enters Proofs.Try.prog 59 := enters_of Proofs.Try.func59 rfl rfl
theorem en60 : Enters Proofs.Try.prog 60 := enters_of Proofs.Try.func60 rfl rfl
theorem en61 : Enters Proofs.Try.prog 61 := enters_of Proofs.Try.func61 rfl rfl
theorem en62 : Enters Proofs.Try.prog 62 := enters_of Proofs.Try.func62 rfl rfl
theorem en63 : Enters Proofs.Try.prog 63 := enters_of Proofs.Try.func63 rfl rfl
theorem en64 : Enters Proofs.Try.prog 64 := enters_of Proofs.Try.func64 rfl rfl
theorem en65 : Enters Proofs.Try.prog 65 := enters_of Proofs.Try.func65 rfl rfl
theorem en66 : Enters Proofs.Try.prog 66 := enters_of Proofs.Try.func66 rfl rfl
theorem en67 : Enters Proofs.Try.prog 67 := enters_of Proofs.Try.func67 rfl rfl
theorem en68 : Enters Proofs.Try.prog 68 := enters_of Proofs.Try.func68 rfl rfl
theorem en69 : Enters Proofs.Try.prog 69 := enters_of Proofs.Try.func69 rfl rfl
theorem en70 : Enters Proofs.Try.prog 70 := enters_of Proofs.Try.func70 rfl rfl
theorem en71 : Enters Proofs.Try.prog 71 := enters_of Proofs.Try.func71 rfl rfl
theorem en72 : Enters Proofs.Try.prog 72 := enters_of Proofs.Try.func72 rfl rfl
theorem en73 : Enters Proofs.Try.prog 73 := enters_of Proofs.Try.func73 rfl rfl
theorem en74 : Enters Proofs.Try.prog 74 := enters_of Proofs.Try.func74 rfl rfl
theorem en75 : Enters Proofs.Try.prog 75 := enters_of Proofs.Try.func75 rfl rfl
theorem en76 : Enters Proofs.Try.prog 76 := enters_of Proofs.Try.func76 rfl rfl
theorem en77 : Enters Proofs.Try.prog 77 := enters_of Proofs.Try.func77 rfl rfl
theorem en78 : Enters Proofs.Try.prog 78 := enters_of Proofs.Try.func78 rfl rfl
theorem en79 : Enters Proofs.Try.prog 79 := enters_of Proofs.Try.func79 rfl rfl
theorem en80 : Enters Proofs.Try.prog 80 := enters_of Proofs.Try.func80 rfl rfl
theorem en81 : Enters Proofs.Try.prog 81 := enters_of Proofs.Try.func81 rfl rfl
theorem en82 : Enters Proofs.Try.prog 82 := enters_of Proofs.Try.func82 rfl rfl
theorem en83 : Enters Proofs.Try.prog 83 := enters_of Proofs.Try.func83 rfl rfl
theorem en84 : Enters Proofs.Try.prog 84 := enters_of Proofs.Try.func84 rfl rfl
theorem en85 : Enters Proofs.Try.prog 85 := enters_of Proofs.Try.func85 rfl rfl
theorem en86 : Enters Proofs.Try.prog 86 := enters_of Proofs.Try.func86 rfl rfl
theorem en87 : Enters Proofs.Try.prog 87 := enters_of Proofs.Try.func87 rfl rfl
theorem en88 : Enters Proofs.Try.prog 88 := enters_of Proofs.Try.func88 rfl rfl
theorem en89 : Enters Proofs.Try.prog 89 := enters_of Proofs.Try.func89 rfl rfl
theorem en90 : Enters Proofs.Try.prog 90 := enters_of Proofs.Try.func90 rfl rfl
theorem en91 : Enters Proofs.Try.prog 91 := enters_of Proofs.Try.func91 rfl rfl
theorem en92 : Enters Proofs.Try.prog 92 := enters_of Proofs.Try.func92 rfl rfl
attribute [go_sem] en2 en3 en4 en5 en6 en7 en8 en9 en10 en11 en12 en13 en14 en15 en16 en17 en18 en19 en20 en21 en22 en23 en24 en25 en26 en27 en28 en29 en30 en31 en32 en33 en34 en35 en36 en37 en38 en39 en40 en41 en42 en43 en44 en45 en46 en47 en48 en49 en50 en51 en52 en53 en54 en55 en56 en57 en58 en59 en60 en61 en62 en63 en64 en65 en66 en67 en68 en69 en70 en71 en72 en73 en74 en75 en76 en77 en78 en79 en80 en81 en82 en83 en84 en85 en86 en87 en88 en89 en90 en91 en92
theorem foll : Proofs.Try.prog.follows .mixedOrders = true := by kernel_rfl
@[go_sem] theorem eqg29 : Proofs.Try.prog.eqGuardType Proofs.Try.prog.depth 29 = false := by kernel_rfl
@[go_sem] theorem sih29 : Proofs.Try.prog.stoodInHeld 29 = false := by kernel_rfl
@[go_sem] theorem eqg50 : Proofs.Try.prog.eqGuardType Proofs.Try.prog.depth 50 = false := by kernel_rfl
@[go_sem] theorem sih50 : Proofs.Try.prog.stoodInHeld 50 = false := by kernel_rfl
@[go_sem] theorem eqg76 : Proofs.Try.prog.eqGuardType Proofs.Try.prog.depth 76 = false := by kernel_rfl
@[go_sem] theorem sih76 : Proofs.Try.prog.stoodInHeld 76 = false := by kernel_rfl
@[go_sem] theorem eqg77 : Proofs.Try.prog.eqGuardType Proofs.Try.prog.depth 77 = false := by kernel_rfl
@[go_sem] theorem sih77 : Proofs.Try.prog.stoodInHeld 77 = false := by kernel_rfl
attribute [go_sem] eqT eqF eqA String.reduceEq
def G0 : Nat → V := fun g => .top
theorem G0_ok : ∀ g, Pu (G0 g) ∨ G0 g = .top := fun g => by
  unfold G0
  exact .inr rfl
theorem tab_ok {l : List (FuncId × Contract)} (h : TabOk Proofs.Try.prog G0 l) : ∀ g C, tab l g = some C → Holds Proofs.Try.prog G0 g C := tab_okG h
end Go.Fly.Try
