/- MADE BY PROGRAM (genen.py). -/
import Derived.Test.YtfpoimbidpojnaaGreatDoorSYZDr
import Derived.Test.YtfpoimbidpojnaaGreatDoorAE
set_option linter.unusedSimpArgs false
set_option linter.unusedVariables false
namespace Go.Fly.Tryz
open Go
theorem en3 : Enters Proofs.Tryz.prog 3 := enters_of Proofs.Tryz.func3 rfl rfl
theorem en4 : Enters Proofs.Tryz.prog 4 := enters_of Proofs.Tryz.func4 rfl rfl
theorem en5 : Enters Proofs.Tryz.prog 5 := enters_of Proofs.Tryz.func5 rfl rfl
theorem en6 : Enters Proofs.Tryz.prog 6 := enters_of Proofs.Tryz.func6 rfl rfl
theorem en7 : Enters Proofs.Tryz.prog 7 := enters_of Proofs.Tryz.func7 rfl rfl
theorem en8 : Enters Proofs.Tryz.prog 8 := enters_of Proofs.Tryz.func8 rfl rfl
theorem en9 : Enters Proofs.Tryz.prog 9 := enters_of Proofs.Tryz.func9 rfl rfl
theorem en10 : Enters Proofs.Tryz.prog 10 := enters_of Proofs.Tryz.func10 rfl rfl
theorem en11 : Enters Proofs.Tryz.prog 11 := enters_of Proofs.Tryz.func11 rfl rfl
theorem en12 : Enters Proofs.Tryz.prog 12 := enters_of Proofs.Tryz.func12 rfl rfl
theorem en13 : Enters Proofs.Tryz.prog 13 := enters_of Proofs.Tryz.func13 rfl rfl
theorem en14 : Enters Proofs.Tryz.prog 14 := enters_of Proofs.Tryz.func14 rfl rfl
theorem en15 : Enters Proofs.Tryz.prog 15 := enters_of Proofs.Tryz.func15 rfl rfl
theorem en16 : Enters Proofs.Tryz.prog 16 := enters_of Proofs.Tryz.func16 rfl rfl
theorem en17 : Enters Proofs.Tryz.prog 17 := enters_of Proofs.Tryz.func17 rfl rfl
theorem en18 : Enters Proofs.Tryz.prog 18 := enters_of Proofs.Tryz.func18 rfl rfl
theorem en19 : Enters Proofs.Tryz.prog 19 := enters_of Proofs.Tryz.func19 rfl rfl
theorem en20 : Enters Proofs.Tryz.prog 20 := enters_of Proofs.Tryz.func20 rfl rfl
theorem en21 : Enters Proofs.Tryz.prog 21 := enters_of Proofs.Tryz.func21 rfl rfl
theorem en22 : Enters Proofs.Tryz.prog 22 := enters_of Proofs.Tryz.func22 rfl rfl
theorem en23 : Enters Proofs.Tryz.prog 23 := enters_of Proofs.Tryz.func23 rfl rfl
theorem en24 : Enters Proofs.Tryz.prog 24 := enters_of Proofs.Tryz.func24 rfl rfl
theorem en25 : Enters Proofs.Tryz.prog 25 := enters_of Proofs.Tryz.func25 rfl rfl
theorem en26 : Enters Proofs.Tryz.prog 26 := enters_of Proofs.Tryz.func26 rfl rfl
theorem en27 : Enters Proofs.Tryz.prog 27 := enters_of Proofs.Tryz.func27 rfl rfl
theorem en28 : Enters Proofs.Tryz.prog 28 := enters_of Proofs.Tryz.func28 rfl rfl
theorem en29 : Enters Proofs.Tryz.prog 29 := enters_of Proofs.Tryz.func29 rfl rfl
theorem en30 : Enters Proofs.Tryz.prog 30 := enters_of Proofs.Tryz.func30 rfl rfl
theorem en31 : Enters Proofs.Tryz.prog 31 := enters_of Proofs.Tryz.func31 rfl rfl
theorem en32 : Enters Proofs.Tryz.prog 32 := enters_of Proofs.Tryz.func32 rfl rfl
theorem en33 : Enters Proofs.Tryz.prog 33 := enters_of Proofs.Tryz.func33 rfl rfl
theorem en34 : Enters Proofs.Tryz.prog 34 := enters_of Proofs.Tryz.func34 rfl rfl
theorem en35 : Enters Proofs.Tryz.prog 35 := enters_of Proofs.Tryz.func35 rfl rfl
theorem en36 : Enters Proofs.Tryz.prog 36 := enters_of Proofs.Tryz.func36 rfl rfl
theorem en37 : Enters Proofs.Tryz.prog 37 := enters_of Proofs.Tryz.func37 rfl rfl
theorem en38 : Enters Proofs.Tryz.prog 38 := enters_of Proofs.Tryz.func38 rfl rfl
theorem en39 : Enters Proofs.Tryz.prog 39 := enters_of Proofs.Tryz.func39 rfl rfl
theorem en40 : Enters Proofs.Tryz.prog 40 := enters_of Proofs.Tryz.func40 rfl rfl
theorem en41 : Enters Proofs.Tryz.prog 41 := enters_of Proofs.Tryz.func41 rfl rfl
theorem en42 : Enters Proofs.Tryz.prog 42 := enters_of Proofs.Tryz.func42 rfl rfl
theorem en43 : Enters Proofs.Tryz.prog 43 := enters_of Proofs.Tryz.func43 rfl rfl
theorem en44 : Enters Proofs.Tryz.prog 44 := enters_of Proofs.Tryz.func44 rfl rfl
theorem en45 : Enters Proofs.Tryz.prog 45 := enters_of Proofs.Tryz.func45 rfl rfl
theorem en46 : Enters Proofs.Tryz.prog 46 := enters_of Proofs.Tryz.func46 rfl rfl
theorem en47 : Enters Proofs.Tryz.prog 47 := enters_of Proofs.Tryz.func47 rfl rfl
theorem en48 : Enters Proofs.Tryz.prog 48 := enters_of Proofs.Tryz.func48 rfl rfl
theorem en49 : Enters Proofs.Tryz.prog 49 := enters_of Proofs.Tryz.func49 rfl rfl
theorem en50 : Enters Proofs.Tryz.prog 50 := enters_of Proofs.Tryz.func50 rfl rfl
theorem en51 : Enters Proofs.Tryz.prog 51 := enters_of Proofs.Tryz.func51 rfl rfl
theorem en52 : Enters Proofs.Tryz.prog 52 := enters_of Proofs.Tryz.func52 rfl rfl
theorem en53 : Enters Proofs.Tryz.prog 53 := enters_of Proofs.Tryz.func53 rfl rfl
theorem en54 : Enters Proofs.Tryz.prog 54 := enters_of Proofs.Tryz.func54 rfl rfl
theorem en55 : Enters Proofs.Tryz.prog 55 := enters_of Proofs.Tryz.func55 rfl rfl
theorem en56 : Enters Proofs.Tryz.prog 56 := enters_of Proofs.Tryz.func56 rfl rfl
theorem en57 : Enters Proofs.Tryz.prog 57 := enters_of Proofs.Tryz.func57 rfl rfl
theorem en58 : Enters Proofs.Tryz.prog 58 := enters_of Proofs.Tryz.func58 rfl rfl
theorem en59 : Enters Proofs.Tryz.prog 59 := enters_of Proofs.Tryz.func59 rfl rfl
theorem en60 : Enters Proofs.Tryz.prog 60 := enters_of Proofs.Tryz.func60 rfl rfl
theorem en61 : Enters Proofs.Tryz.prog 61 := enters_of Proofs.Tryz.func61 rfl rfl
theorem en62 : Enters Proofs.Tryz.prog 62 := enters_of Proofs.Tryz.func62 rfl rfl
theorem en63 : Enters Proofs.Tryz.prog 63 := enters_of Proofs.Tryz.func63 rfl rfl
theorem en64 : Enters Proofs.Tryz.prog 64 := enters_of Proofs.Tryz.func64 rfl rfl
theorem en65 : Enters Proofs.Tryz.prog 65 := enters_of Proofs.Tryz.func65 rfl rfl
theorem en66 : Enters Proofs.Tryz.prog 66 := enters_of Proofs.Tryz.func66 rfl rfl
theorem en67 : Enters Proofs.Tryz.prog 67 := enters_of Proofs.Tryz.func67 rfl rfl
theorem en68 : Enters Proofs.Tryz.prog 68 := enters_of Proofs.Tryz.func68 rfl rfl
theorem en69 : Enters Proofs.Tryz.prog 69 := enters_of Proofs.Tryz.func69 rfl rfl
theorem en70 : Enters Proofs.Tryz.prog 70 := enters_of Proofs.Tryz.func70 rfl rfl
theorem en71 : Enters Proofs.Tryz.prog 71 := enters_of Proofs.Tryz.func71 rfl rfl
theorem en72 : Enters Proofs.Tryz.prog 72 := enters_of Proofs.Tryz.func72 rfl rfl
theorem en73 : Enters Proofs.Tryz.prog 73 := enters_of Proofs.Tryz.func73 rfl rfl
theorem en74 : Enters Proofs.Tryz.prog 74 := enters_of Proofs.Tryz.func74 rfl rfl
theorem en75 : Enters Proofs.Tryz.prog 75 := enters_of Proofs.Tryz.func75 rfl rfl
theorem en76 : Enters Proofs.Tryz.prog 76 := enters_of Proofs.Tryz.func76 rfl rfl
theorem en77 : Enters Proofs.Tryz.prog 77 := enters_of Proofs.Tryz.func77 rfl rfl
theorem en78 : Enters Proofs.Tryz.prog 78 := enters_of Proofs.Tryz.func78 rfl rfl
theorem en79 : Enters Proofs.Tryz.prog 79 := enters_of Proofs.Tryz.func79 rfl rfl
theorem en80 : Enters Proofs.Tryz.prog 80 := enters_of Proofs.Tryz.func80 rfl rfl
theorem en81 : Enters Proofs.Tryz.prog 81 := enters_of Proofs.Tryz.func81 rfl rfl
theorem en82 : Enters Proofs.Tryz.prog 82 := enters_of Proofs.Tryz.func82 rfl rfl
theorem en83 : Enters Proofs.Tryz.prog 83 := enters_of Proofs.Tryz.func83 rfl rfl
theorem en84 : Enters Proofs.Tryz.prog 84 := enters_of Proofs.Tryz.func84 rfl rfl
theorem en85 : Enters Proofs.Tryz.prog 85 := enters_of Proofs.Tryz.func85 rfl rfl
theorem en86 : Enters Proofs.Tryz.prog 86 := enters_of Proofs.Tryz.func86 rfl rfl
theorem en87 : Enters Proofs.Tryz.prog 87 := enters_of Proofs.Tryz.func87 rfl rfl
theorem en88 : Enters Proofs.Tryz.prog 88 := enters_of Proofs.Tryz.func88 rfl rfl
theorem en89 : Enters Proofs.Tryz.prog 89 := enters_of Proofs.Tryz.func89 rfl rfl
theorem en90 : Enters Proofs.Tryz.prog 90 := enters_of Proofs.Tryz.func90 rfl rfl
theorem en91 : Enters Proofs.Tryz.prog 91 := enters_of Proofs.Tryz.func91 rfl rfl
theorem en92 : Enters Proofs.Tryz.prog 92 := enters_of Proofs.Tryz.func92 rfl rfl
theorem en93 : Enters Proofs.Tryz.prog 93 := enters_of Proofs.Tryz.func93 rfl rfl
theorem en94 : Enters Proofs.Tryz.prog 94 := enters_of Proofs.Tryz.func94 rfl rfl
theorem en95 : Enters Proofs.Tryz.prog 95 := enters_of Proofs.Tryz.func95 rfl rfl
theorem en97 : Enters Proofs.Tryz.prog 97 := enters_of Proofs.Tryz.func97 rfl rfl
theorem en98 : Enters Proofs.Tryz.prog 98 := enters_of Proofs.Tryz.func98 rfl rfl
theorem en99 : Enters Proofs.Tryz.prog 99 := enters_of Proofs.Tryz.func99 rfl rfl
theorem en100 : Enters Proofs.Tryz.prog 100 := enters_of Proofs.Tryz.func100 rfl rfl
theorem en101 : Enters Proofs.Tryz.prog 101 := enters_of Proofs.Tryz.func101 rfl rfl
theorem en102 : Enters Proofs.Tryz.prog 102 := enters_of Proofs.Tryz.func102 rfl rfl
theorem en103 : Enters Proofs.Tryz.prog 103 := enters_of Proofs.Tryz.func103 rfl rfl
theorem en121 : Enters Proofs.Tryz.prog 121 := enters_of Proofs.Tryz.func121 rfl rfl
theorem en122 : Enters Proofs.Tryz.prog 122 := enters_of Proofs.Tryz.func122 rfl rfl
theorem en123 : Enters Proofs.Tryz.prog 123 := enters_of Proofs.Tryz.func123 rfl rfl
theorem en124 : Enters Proofs.Tryz.prog 124 := enters_of Proofs.Tryz.func124 rfl rfl
attribute [go_sem] en3 en4 en5 en6 en7 en8 en9 en10 en11 en12 en13 en14 en15 en16 en17 en18 en19 en20 en21 en22 en23 en24 en25 en26 en27 en28 en29 en30 en31 en32 en33 en34 en35 en36 en37 en38 en39 en40 en41 en42 en43 en44 en45 en46 en47 en48 en49 en50 en51 en52 en53 en54 en55 en56 en57 en58 en59 en60 en61 en62 en63 en64 en65 en66 en67 en68 en69 en70 en71 en72 en73 en74 en75 en76 en77 en78 en79 en80 en81 en82 en83 en84 en85 en86 en87 en88 en89 en90 en91 en92 en93 en94 en95 en97 en98 en99 en100 en101 en102 en103 en121 en122 en123 en124
theorem foll : Proofs.Tryz.prog.follows .mixedOrders = true := by kernel_rfl
@[go_sem] theorem eqg26 : Proofs.Tryz.prog.eqGuardType Proofs.Tryz.prog.depth 26 = false := by kernel_rfl
@[go_sem] theorem sih26 : Proofs.Tryz.prog.stoodInHeld 26 = false := by kernel_rfl
@[go_sem] theorem eqg34 : Proofs.Tryz.prog.eqGuardType Proofs.Tryz.prog.depth 34 = false := by kernel_rfl
@[go_sem] theorem sih34 : Proofs.Tryz.prog.stoodInHeld 34 = false := by kernel_rfl
@[go_sem] theorem eqg51 : Proofs.Tryz.prog.eqGuardType Proofs.Tryz.prog.depth 51 = false := by kernel_rfl
@[go_sem] theorem sih51 : Proofs.Tryz.prog.stoodInHeld 51 = false := by kernel_rfl
@[go_sem] theorem eqg77 : Proofs.Tryz.prog.eqGuardType Proofs.Tryz.prog.depth 77 = false := by kernel_rfl
@[go_sem] theorem sih77 : Proofs.Tryz.prog.stoodInHeld 77 = false := by kernel_rfl
@[go_sem] theorem eqg78 : Proofs.Tryz.prog.eqGuardType Proofs.Tryz.prog.depth 78 = false := by kernel_rfl
@[go_sem] theorem sih78 : Proofs.Tryz.prog.stoodInHeld 78 = false := by kernel_rfl
attribute [go_sem] eqT eqF eqA String.reduceEq
def G0 : Nat → V := fun g => if g = 0 then .cptr [.fn (.func 121) [] [], .int .i64 (-1000), .int .i64 1000, .fn (.func 122) [] [], .int .i64 (-1000), .int .i64 1000, .fn (.func 123) [] [], .int .i64 (-1000), .int .i64 1000, .fn (.func 124) [] [], .int .i64 (-1000), .int .i64 1000] else .top
@[go_sem] theorem G0_0 : G0 0 = .cptr [.fn (.func 121) [] [], .int .i64 (-1000), .int .i64 1000, .fn (.func 122) [] [], .int .i64 (-1000), .int .i64 1000, .fn (.func 123) [] [], .int .i64 (-1000), .int .i64 1000, .fn (.func 124) [] [], .int .i64 (-1000), .int .i64 1000] := rfl
theorem G0_ok : ∀ g, Pu (G0 g) ∨ G0 g = .top := fun g => by
  unfold G0
  split
  · left; first | exact .tabp _ | simp only [go_sem, ↓op_move, ↓op_assign, ↓op_pick, ↓op_alloc, ↓op_box, ↓op_build, ↓op_buildSlice, ↓op_load, ↓op_store, ↓op_nilCheck, ↓op_bin, ↓op_un, ↓op_convert, ↓op_makeFunc, ↓op_makeSlice, ↓op_slice, ↓op_fieldAddr, ↓op_field, ↓op_indexAddr, ↓op_index, ↓op_extract, ↓op_lookup, ↓op_mapUpdate, ↓op_makeMap, ↓op_range, ↓op_next, ↓op_call, ↓op_builtin, ↓g_tt, ↓g_ff, ↓g_tf, ↓g_ft, ↓g_tnt, ↓g_tnf, ↓g_fnt, ↓g_fnf]
  exact .inr rfl
theorem tab_ok {l : List (FuncId × Contract)} (h : TabOk Proofs.Tryz.prog G0 l) : ∀ g C, tab l g = some C → Holds Proofs.Tryz.prog G0 g C := tab_okG h
end Go.Fly.Tryz
