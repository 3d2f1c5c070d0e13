/- MADE BY PROGRAM (genen.py). -/
import Derived.Test.YtfpoimbidpojnaaDoorSYEDr
import Derived.Test.YtfpoimbidpojnaaDoorAD
set_option linter.unusedSimpArgs false
set_option linter.unusedVariables false
namespace Go.Fly.Tryd
open Go
theorem en2 : Enters Proofs.Tryd.prog 2 := enters_of Proofs.Tryd.func2 rfl rfl
theorem en3 : Enters Proofs.Tryd.prog 3 := enters_of Proofs.Tryd.func3 rfl rfl
theorem en4 : Enters Proofs.Tryd.prog 4 := enters_of Proofs.Tryd.func4 rfl rfl
theorem en5 : Enters Proofs.Tryd.prog 5 := enters_of Proofs.Tryd.func5 rfl rfl
theorem en6 : Enters Proofs.Tryd.prog 6 := enters_of Proofs.Tryd.func6 rfl rfl
theorem en7 : Enters Proofs.Tryd.prog 7 := enters_of Proofs.Tryd.func7 rfl rfl
theorem en8 : Enters Proofs.Tryd.prog 8 := enters_of Proofs.Tryd.func8 rfl rfl
theorem en9 : Enters Proofs.Tryd.prog 9 := enters_of Proofs.Tryd.func9 rfl rfl
theorem en10 : Enters Proofs.Tryd.prog 10 := enters_of Proofs.Tryd.func10 rfl rfl
theorem en11 : Enters Proofs.Tryd.prog 11 := enters_of Proofs.Tryd.func11 rfl rfl
theorem en12 : Enters Proofs.Tryd.prog 12 := enters_of Proofs.Tryd.func12 rfl rfl
theorem en13 : Enters Proofs.Tryd.prog 13 := enters_of Proofs.Tryd.func13 rfl rfl
theorem en14 : Enters Proofs.Tryd.prog 14 := enters_of Proofs.Tryd.func14 rfl rfl
theorem en15 : Enters Proofs.Tryd.prog 15 := enters_of Proofs.Tryd.func15 rfl rfl
theorem en16 : Enters Proofs.Tryd.prog 16 := enters_of Proofs.Tryd.func16 rfl rfl
theorem en17 : Enters Proofs.Tryd.prog 17 := enters_of Proofs.Tryd.func17 rfl rfl
theorem en18 : Enters Proofs.Tryd.prog 18 := enters_of Proofs.Tryd.func18 rfl rfl
theorem en19 : Enters Proofs.Tryd.prog 19 := enters_of Proofs.Tryd.func19 rfl rfl
theorem en20 : Enters Proofs.Tryd.prog 20 := enters_of Proofs.Tryd.func20 rfl rfl
theorem en21 : Enters Proofs.Tryd.prog 21 := enters_of Proofs.Tryd.func21 rfl rfl
theorem en22 : Enters Proofs.Tryd.prog 22 := enters_of Proofs.Tryd.func22 rfl rfl
theorem en23 : Enters Proofs.Tryd.prog 23 := enters_of Proofs.Tryd.func23 rfl rfl
theorem en24 : Enters Proofs.Tryd.prog 24 := enters_of Proofs.Tryd.func24 rfl rfl
theorem en25 : Enters Proofs.Tryd.prog 25 := enters_of Proofs.Tryd.func25 rfl rfl
theorem en26 : Enters Proofs.Tryd.prog 26 := enters_of Proofs.Tryd.func26 rfl rfl
theorem en27 : Enters Proofs.Tryd.prog 27 := enters_of Proofs.Tryd.func27 rfl rfl
theorem en28 : Enters Proofs.Tryd.prog 28 := enters_of Proofs.Tryd.func28 rfl rfl
theorem en29 : Enters Proofs.Tryd.prog 29 := enters_of Proofs.Tryd.func29 rfl rfl
theorem en30 : Enters Proofs.Tryd.prog 30 := enters_of Proofs.Tryd.func30 rfl rfl
theorem en31 : Enters Proofs.Tryd.prog 31 := enters_of Proofs.Tryd.func31 rfl rfl
theorem en32 : Enters Proofs.Tryd.prog 32 := enters_of Proofs.Tryd.func32 rfl rfl
theorem en33 : Enters Proofs.Tryd.prog 33 := enters_of Proofs.Tryd.func33 rfl rfl
theorem en34 : Enters Proofs.Tryd.prog 34 := enters_of Proofs.Tryd.func34 rfl rfl
theorem en35 : Enters Proofs.Tryd.prog 35 := enters_of Proofs.Tryd.func35 rfl rfl
theorem en36 : Enters Proofs.Tryd.prog 36 := enters_of Proofs.Tryd.func36 rfl rfl
theorem en37 : Enters Proofs.Tryd.prog 37 := enters_of Proofs.Tryd.func37 rfl rfl
theorem en38 : Enters Proofs.Tryd.prog 38 := enters_of Proofs.Tryd.func38 rfl rfl
theorem en39 : Enters Proofs.Tryd.prog 39 := enters_of Proofs.Tryd.func39 rfl rfl
theorem en40 : Enters Proofs.Tryd.prog 40 := enters_of Proofs.Tryd.func40 rfl rfl
theorem en41 : Enters Proofs.Tryd.prog 41 := enters_of Proofs.Tryd.func41 rfl rfl
theorem en42 : Enters Proofs.Tryd.prog 42 := enters_of Proofs.Tryd.func42 rfl rfl
theorem en43 : Enters Proofs.Tryd.prog 43 := enters_of Proofs.Tryd.func43 rfl rfl
theorem en44 : Enters Proofs.Tryd.prog 44 := enters_of Proofs.Tryd.func44 rfl rfl
theorem en45 : Enters Proofs.Tryd.prog 45 := enters_of Proofs.Tryd.func45 rfl rfl
theorem en46 : Enters Proofs.Tryd.prog 46 := enters_of Proofs.Tryd.func46 rfl rfl
theorem en47 : Enters Proofs.Tryd.prog 47 := enters_of Proofs.Tryd.func47 rfl rfl
theorem en48 : Enters Proofs.Tryd.prog 48 := enters_of Proofs.Tryd.func48 rfl rfl
theorem en49 : Enters Proofs.Tryd.prog 49 := enters_of Proofs.Tryd.func49 rfl rfl
theorem en50 : Enters Proofs.Tryd.prog 50 := enters_of Proofs.Tryd.func50 rfl rfl
theorem en51 : Enters Proofs.Tryd.prog 51 := enters_of Proofs.Tryd.func51 rfl rfl
theorem en52 : Enters Proofs.Tryd.prog 52 := enters_of Proofs.Tryd.func52 rfl rfl
theorem en53 : Enters Proofs.Tryd.prog 53 := enters_of Proofs.Tryd.func53 rfl rfl
theorem en54 : Enters Proofs.Tryd.prog 54 := enters_of Proofs.Tryd.func54 rfl rfl
theorem en55 : Enters Proofs.Tryd.prog 55 := enters_of Proofs.Tryd.func55 rfl rfl
theorem en56 : Enters Proofs.Tryd.prog 56 := enters_of Proofs.Tryd.func56 rfl rfl
theorem en57 : Enters Proofs.Tryd.prog 57 := enters_of Proofs.Tryd.func57 rfl rfl
theorem en58 : Enters Proofs.Tryd.prog 58 := enters_of Proofs.Tryd.func58 rfl rfl
theorem en59 : Enters Proofs.Tryd.prog 59 := enters_of Proofs.Tryd.func59 rfl rfl
theorem en60 : Enters Proofs.Tryd.prog 60 := enters_of Proofs.Tryd.func60 rfl rfl
theorem en61 : Enters Proofs.Tryd.prog 61 := enters_of Proofs.Tryd.func61 rfl rfl
theorem en62 : Enters Proofs.Tryd.prog 62 := enters_of Proofs.Tryd.func62 rfl rfl
theorem en63 : Enters Proofs.Tryd.prog 63 := enters_of Proofs.Tryd.func63 rfl rfl
theorem en64 : Enters Proofs.Tryd.prog 64 := enters_of Proofs.Tryd.func64 rfl rfl
theorem en65 : Enters Proofs.Tryd.prog 65 := enters_of Proofs.Tryd.func65 rfl rfl
theorem en66 : Enters Proofs.Tryd.prog 66 := enters_of Proofs.Tryd.func66 rfl rfl
theorem en67 : Enters Proofs.Tryd.prog 67 := enters_of Proofs.Tryd.func67 rfl rfl
theorem en68 : Enters Proofs.Tryd.prog 68 := enters_of Proofs.Tryd.func68 rfl rfl
theorem en69 : Enters Proofs.Tryd.prog 69 := enters_of Proofs.Tryd.func69 rfl rfl
theorem en70 : Enters Proofs.Tryd.prog 70 := enters_of Proofs.Tryd.func70 rfl rfl
theorem en71 : Enters Proofs.Tryd.prog 71 := enters_of Proofs.Tryd.func71 rfl rfl
theorem en72 : Enters Proofs.Tryd.prog 72 := enters_of Proofs.Tryd.func72 rfl rfl
theorem en73 : Enters Proofs.Tryd.prog 73 := enters_of Proofs.Tryd.func73 rfl rfl
theorem en74 : Enters Proofs.Tryd.prog 74 := enters_of Proofs.Tryd.func74 rfl rfl
theorem en75 : Enters Proofs.Tryd.prog 75 := enters_of Proofs.Tryd.func75 rfl rfl
theorem en76 : Enters Proofs.Tryd.prog 76 := enters_of Proofs.Tryd.func76 rfl rfl
theorem en77 : Enters Proofs.Tryd.prog 77 := enters_of Proofs.Tryd.func77 rfl rfl
theorem en78 : Enters Proofs.Tryd.prog 78 := enters_of Proofs.Tryd.func78 rfl rfl
theorem en79 : Enters Proofs.Tryd.prog 79 := enters_of Proofs.Tryd.func79 rfl rfl
theorem en80 : Enters Proofs.Tryd.prog 80 := enters_of Proofs.Tryd.func80 rfl rfl
theorem en81 : Enters Proofs.Tryd.prog 81 := enters_of Proofs.Tryd.func81 rfl rfl
theorem en82 : Enters Proofs.Tryd.prog 82 := enters_of Proofs.Tryd.func82 rfl rfl
theorem en83 : Enters Proofs.Tryd.prog 83 := enters_of Proofs.Tryd.func83 rfl rfl
theorem en84 : Enters Proofs.Tryd.prog 84 := enters_of Proofs.Tryd.func84 rfl rfl
theorem en85 : Enters Proofs.Tryd.prog 85 := enters_of Proofs.Tryd.func85 rfl rfl
theorem en86 : Enters Proofs.Tryd.prog 86 := enters_of Proofs.Tryd.func86 rfl rfl
theorem en87 : Enters Proofs.Tryd.prog 87 := enters_of Proofs.Tryd.func87 rfl rfl
theorem en88 : Enters Proofs.Tryd.prog 88 := enters_of Proofs.Tryd.func88 rfl rfl
theorem en90 : Enters Proofs.Tryd.prog 90 := enters_of Proofs.Tryd.func90 rfl rfl
theorem en91 : Enters Proofs.Tryd.prog 91 := enters_of Proofs.Tryd.func91 rfl rfl
theorem en92 : Enters Proofs.Tryd.prog 92 := enters_of Proofs.Tryd.func92 rfl rfl
theorem en93 : Enters Proofs.Tryd.prog 93 := enters_of Proofs.Tryd.func93 rfl rfl
theorem en94 : Enters Proofs.Tryd.prog 94 := enters_of Proofs.Tryd.func94 rfl rfl
theorem en95 : Enters Proofs.Tryd.prog 95 := enters_of Proofs.Tryd.func95 rfl rfl
theorem en96 : Enters Proofs.Tryd.prog 96 := enters_of Proofs.Tryd.func96 rfl rfl
theorem en97 : Enters Proofs.Tryd.prog 97 := enters_of Proofs.Tryd.func97 rfl rfl
theorem en98 : Enters Proofs.Tryd.prog 98 := enters_of Proofs.Tryd.func98 rfl rfl
theorem en99 : Enters Proofs.Tryd.prog 99 := enters_of Proofs.Tryd.func99 rfl rfl
theorem en100 : Enters Proofs.Tryd.prog 100 := enters_of Proofs.Tryd.func100 rfl rfl
theorem en119 : Enters Proofs.Tryd.prog 119 := enters_of Proofs.Tryd.func119 rfl rfl
theorem en120 : Enters Proofs.Tryd.prog 120 := enters_of Proofs.Tryd.func120 rfl rfl
theorem en121 : Enters Proofs.Tryd.prog 121 := enters_of Proofs.Tryd.func121 rfl rfl
theorem en122 : Enters Proofs.Tryd.prog 122 := enters_of Proofs.Tryd.func122 rfl rfl
theorem en126 : Enters Proofs.Tryd.prog 126 := enters_of Proofs.Tryd.func126 rfl rfl
attribute [go_sem] en2 en3 en4 en5 en6 en7 en8 en9 en10 en11 en12 en13 en14 en15 en16 en17 en18 en19 en20 en21 en22 en23 en24 en25 en26 en27 en28 en29 en30 en31 en32 en33 en34 en35 en36 en37 en38 en39 en40 en41 en42 en43 en44 en45 en46 en47 en48 en49 en50 en51 en52 en53 en54 en55 en56 en57 en58 en59 en60 en61 en62 en63 en64 en65 en66 en67 en68 en69 en70 en71 en72 en73 en74 en75 en76 en77 en78 en79 en80 en81 en82 en83 en84 en85 en86 en87 en88 en90 en91 en92 en93 en94 en95 en96 en97 en98 en99 en100 en119 en120 en121 en122 en126
theorem foll : Proofs.Tryd.prog.follows .mixedOrders = true := by kernel_rfl
@[go_sem] theorem eqg26 : Proofs.Tryd.prog.eqGuardType Proofs.Tryd.prog.depth 26 = false := by kernel_rfl
@[go_sem] theorem sih26 : Proofs.Tryd.prog.stoodInHeld 26 = false := by kernel_rfl
@[go_sem] theorem eqg36 : Proofs.Tryd.prog.eqGuardType Proofs.Tryd.prog.depth 36 = false := by kernel_rfl
@[go_sem] theorem sih36 : Proofs.Tryd.prog.stoodInHeld 36 = false := by kernel_rfl
@[go_sem] theorem eqg51 : Proofs.Tryd.prog.eqGuardType Proofs.Tryd.prog.depth 51 = false := by kernel_rfl
@[go_sem] theorem sih51 : Proofs.Tryd.prog.stoodInHeld 51 = false := by kernel_rfl
@[go_sem] theorem eqg83 : Proofs.Tryd.prog.eqGuardType Proofs.Tryd.prog.depth 83 = false := by kernel_rfl
@[go_sem] theorem sih83 : Proofs.Tryd.prog.stoodInHeld 83 = false := by kernel_rfl
@[go_sem] theorem eqg84 : Proofs.Tryd.prog.eqGuardType Proofs.Tryd.prog.depth 84 = false := by kernel_rfl
@[go_sem] theorem sih84 : Proofs.Tryd.prog.stoodInHeld 84 = false := by kernel_rfl
attribute [go_sem] eqT eqF eqA String.reduceEq
def G0 : Nat → V := fun g => if g = 1 then .cptr [.fn (.func 119) [] [], .int .i64 (-1000), .int .i64 1000, .fn (.func 120) [] [], .int .i64 (-1000), .int .i64 1000, .fn (.func 121) [] [], .int .i64 (-1000), .int .i64 1000, .fn (.func 122) [] [], .int .i64 (-1000), .int .i64 1000] else .top
@[go_sem] theorem G0_1 : G0 1 = .cptr [.fn (.func 119) [] [], .int .i64 (-1000), .int .i64 1000, .fn (.func 120) [] [], .int .i64 (-1000), .int .i64 1000, .fn (.func 121) [] [], .int .i64 (-1000), .int .i64 1000, .fn (.func 122) [] [], .int .i64 (-1000), .int .i64 1000] := rfl
theorem G0_ok : ∀ g, Pu (G0 g) ∨ G0 g = .top := fun g => by
  unfold G0
  split
  · left; simp only [go_sem, ↓op_move, ↓op_assign, ↓op_pick, ↓op_alloc, ↓op_box, ↓op_build, ↓op_buildSlice, ↓op_load, ↓op_store, ↓op_nilCheck, ↓op_bin, ↓op_un, ↓op_convert, ↓op_makeFunc, ↓op_makeSlice, ↓op_slice, ↓op_fieldAddr, ↓op_field, ↓op_indexAddr, ↓op_index, ↓op_extract, ↓op_lookup, ↓op_mapUpdate, ↓op_makeMap, ↓op_range, ↓op_next, ↓op_call, ↓op_builtin, ↓g_tt, ↓g_ff, ↓g_tf, ↓g_ft, ↓g_tnt, ↓g_tnf, ↓g_fnt, ↓g_fnf]
  exact .inr rfl
theorem tab_ok {l : List (FuncId × Contract)} (h : TabOk Proofs.Tryd.prog G0 l) : ∀ g C, tab l g = some C → Holds Proofs.Tryd.prog G0 g C := tab_okG h
end Go.Fly.Tryd
