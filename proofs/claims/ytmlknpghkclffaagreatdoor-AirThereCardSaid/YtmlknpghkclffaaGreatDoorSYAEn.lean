/- MADE BY PROGRAM (genen.py). -/
import Derived.Test.YtmlknpghkclffaaGreatDoorSYADr
import Derived.Test.YtmlknpghkclffaaGreatDoorAE
set_option linter.unusedSimpArgs false
set_option linter.unusedVariables false
namespace Go.Fly.Tryz
open Go
theorem en9 : Enters Proofs.Tryz.prog 9 := enters_of Proofs.Tryz.func9 rfl rfl
theorem en10 : Enters Proofs.Tryz.prog 10 := enters_of Proofs.Tryz.func10 rfl rfl
theorem en15 : Enters Proofs.Tryz.prog 15 := enters_of Proofs.Tryz.func15 rfl rfl
theorem en16 : Enters Proofs.Tryz.prog 16 := enters_of Proofs.Tryz.func16 rfl rfl
theorem en17 : Enters Proofs.Tryz.prog 17 := enters_of Proofs.Tryz.func17 rfl rfl
theorem en18 : Enters Proofs.Tryz.prog 18 := enters_of Proofs.Tryz.func18 rfl rfl
theorem en19 : Enters Proofs.Tryz.prog 19 := enters_of Proofs.Tryz.func19 rfl rfl
theorem en20 : Enters Proofs.Tryz.prog 20 := enters_of Proofs.Tryz.func20 rfl rfl
theorem en21 : Enters Proofs.Tryz.prog 21 := enters_of Proofs.Tryz.func21 rfl rfl
theorem en22 : Enters Proofs.Tryz.prog 22 := enters_of Proofs.Tryz.func22 rfl rfl
theorem en23 : Enters Proofs.Tryz.prog 23 := enters_of Proofs.Tryz.func23 rfl rfl
theorem en27 : Enters Proofs.Tryz.prog 27 := enters_of Proofs.Tryz.func27 rfl rfl
theorem en29 : Enters Proofs.Tryz.prog 29 := enters_of Proofs.Tryz.func29 rfl rfl
theorem en30 : Enters Proofs.Tryz.prog 30 := enters_of Proofs.Tryz.func30 rfl rfl
theorem en31 : Enters Proofs.Tryz.prog 31 := enters_of Proofs.Tryz.func31 rfl rfl
theorem en32 : Enters Proofs.Tryz.prog 32 := enters_of Proofs.Tryz.func32 rfl rfl
theorem en35 : Enters Proofs.Tryz.prog 35 := enters_of Proofs.Tryz.func35 rfl rfl
theorem en37 : Enters Proofs.Tryz.prog 37 := enters_of Proofs.Tryz.func37 rfl rfl
theorem en38 : Enters Proofs.Tryz.prog 38 := enters_of Proofs.Tryz.func38 rfl rfl
theorem en41 : Enters Proofs.Tryz.prog 41 := enters_of Proofs.Tryz.func41 rfl rfl
theorem en43 : Enters Proofs.Tryz.prog 43 := enters_of Proofs.Tryz.func43 rfl rfl
theorem en44 : Enters Proofs.Tryz.prog 44 := enters_of Proofs.Tryz.func44 rfl rfl
theorem en49 : Enters Proofs.Tryz.prog 49 := enters_of Proofs.Tryz.func49 rfl rfl
theorem en50 : Enters Proofs.Tryz.prog 50 := enters_of Proofs.Tryz.func50 rfl rfl
theorem en55 : Enters Proofs.Tryz.prog 55 := enters_of Proofs.Tryz.func55 rfl rfl
theorem en56 : Enters Proofs.Tryz.prog 56 := enters_of Proofs.Tryz.func56 rfl rfl
theorem en57 : Enters Proofs.Tryz.prog 57 := enters_of Proofs.Tryz.func57 rfl rfl
theorem en58 : Enters Proofs.Tryz.prog 58 := enters_of Proofs.Tryz.func58 rfl rfl
theorem en63 : Enters Proofs.Tryz.prog 63 := enters_of Proofs.Tryz.func63 rfl rfl
theorem en64 : Enters Proofs.Tryz.prog 64 := enters_of Proofs.Tryz.func64 rfl rfl
theorem en65 : Enters Proofs.Tryz.prog 65 := enters_of Proofs.Tryz.func65 rfl rfl
theorem en66 : Enters Proofs.Tryz.prog 66 := enters_of Proofs.Tryz.func66 rfl rfl
theorem en67 : Enters Proofs.Tryz.prog 67 := enters_of Proofs.Tryz.func67 rfl rfl
theorem en68 : Enters Proofs.Tryz.prog 68 := enters_of Proofs.Tryz.func68 rfl rfl
theorem en70 : Enters Proofs.Tryz.prog 70 := enters_of Proofs.Tryz.func70 rfl rfl
theorem en71 : Enters Proofs.Tryz.prog 71 := enters_of Proofs.Tryz.func71 rfl rfl
theorem en77 : Enters Proofs.Tryz.prog 77 := enters_of Proofs.Tryz.func77 rfl rfl
theorem en78 : Enters Proofs.Tryz.prog 78 := enters_of Proofs.Tryz.func78 rfl rfl
theorem en79 : Enters Proofs.Tryz.prog 79 := enters_of Proofs.Tryz.func79 rfl rfl
theorem en80 : Enters Proofs.Tryz.prog 80 := enters_of Proofs.Tryz.func80 rfl rfl
theorem en81 : Enters Proofs.Tryz.prog 81 := enters_of Proofs.Tryz.func81 rfl rfl
theorem en82 : Enters Proofs.Tryz.prog 82 := enters_of Proofs.Tryz.func82 rfl rfl
theorem en83 : Enters Proofs.Tryz.prog 83 := enters_of Proofs.Tryz.func83 rfl rfl
theorem en84 : Enters Proofs.Tryz.prog 84 := enters_of Proofs.Tryz.func84 rfl rfl
theorem en85 : Enters Proofs.Tryz.prog 85 := enters_of Proofs.Tryz.func85 rfl rfl
theorem en86 : Enters Proofs.Tryz.prog 86 := enters_of Proofs.Tryz.func86 rfl rfl
theorem en87 : Enters Proofs.Tryz.prog 87 := enters_of Proofs.Tryz.func87 rfl rfl
theorem en88 : Enters Proofs.Tryz.prog 88 := enters_of Proofs.Tryz.func88 rfl rfl
theorem en89 : Enters Proofs.Tryz.prog 89 := enters_of Proofs.Tryz.func89 rfl rfl
theorem en90 : Enters Proofs.Tryz.prog 90 := enters_of Proofs.Tryz.func90 rfl rfl
theorem en93 : Enters Proofs.Tryz.prog 93 := enters_of Proofs.Tryz.func93 rfl rfl
theorem en94 : Enters Proofs.Tryz.prog 94 := enters_of Proofs.Tryz.func94 rfl rfl
theorem en95 : Enters Proofs.Tryz.prog 95 := enters_of Proofs.Tryz.func95 rfl rfl
theorem en96 : Enters Proofs.Tryz.prog 96 := enters_of Proofs.Tryz.func96 rfl rfl
theorem en97 : Enters Proofs.Tryz.prog 97 := enters_of Proofs.Tryz.func97 rfl rfl
theorem en98 : Enters Proofs.Tryz.prog 98 := enters_of Proofs.Tryz.func98 rfl rfl
theorem en99 : Enters Proofs.Tryz.prog 99 := enters_of Proofs.Tryz.func99 rfl rfl
theorem en100 : Enters Proofs.Tryz.prog 100 := enters_of Proofs.Tryz.func100 rfl rfl
theorem en104 : Enters Proofs.Tryz.prog 104 := enters_of Proofs.Tryz.func104 rfl rfl
theorem en105 : Enters Proofs.Tryz.prog 105 := enters_of Proofs.Tryz.func105 rfl rfl
theorem en106 : Enters Proofs.Tryz.prog 106 := enters_of Proofs.Tryz.func106 rfl rfl
theorem en109 : Enters Proofs.Tryz.prog 109 := enters_of Proofs.Tryz.func109 rfl rfl
theorem en110 : Enters Proofs.Tryz.prog 110 := enters_of Proofs.Tryz.func110 rfl rfl
theorem en111 : Enters Proofs.Tryz.prog 111 := enters_of Proofs.Tryz.func111 rfl rfl
theorem en112 : Enters Proofs.Tryz.prog 112 := enters_of Proofs.Tryz.func112 rfl rfl
theorem en113 : Enters Proofs.Tryz.prog 113 := enters_of Proofs.Tryz.func113 rfl rfl
theorem en114 : Enters Proofs.Tryz.prog 114 := enters_of Proofs.Tryz.func114 rfl rfl
theorem en115 : Enters Proofs.Tryz.prog 115 := enters_of Proofs.Tryz.func115 rfl rfl
theorem en118 : Enters Proofs.Tryz.prog 118 := enters_of Proofs.Tryz.func118 rfl rfl
theorem en119 : Enters Proofs.Tryz.prog 119 := enters_of Proofs.Tryz.func119 rfl rfl
theorem en120 : Enters Proofs.Tryz.prog 120 := enters_of Proofs.Tryz.func120 rfl rfl
theorem en121 : Enters Proofs.Tryz.prog 121 := enters_of Proofs.Tryz.func121 rfl rfl
theorem en122 : Enters Proofs.Tryz.prog 122 := enters_of Proofs.Tryz.func122 rfl rfl
theorem en124 : Enters Proofs.Tryz.prog 124 := enters_of Proofs.Tryz.func124 rfl rfl
theorem en125 : Enters Proofs.Tryz.prog 125 := enters_of Proofs.Tryz.func125 rfl rfl
theorem en126 : Enters Proofs.Tryz.prog 126 := enters_of Proofs.Tryz.func126 rfl rfl
theorem en128 : Enters Proofs.Tryz.prog 128 := enters_of Proofs.Tryz.func128 rfl rfl
theorem en129 : Enters Proofs.Tryz.prog 129 := enters_of Proofs.Tryz.func129 rfl rfl
theorem en131 : Enters Proofs.Tryz.prog 131 := enters_of Proofs.Tryz.func131 rfl rfl
theorem en132 : Enters Proofs.Tryz.prog 132 := enters_of Proofs.Tryz.func132 rfl rfl
theorem en133 : Enters Proofs.Tryz.prog 133 := enters_of Proofs.Tryz.func133 rfl rfl
theorem en140 : Enters Proofs.Tryz.prog 140 := enters_of Proofs.Tryz.func140 rfl rfl
theorem en145 : Enters Proofs.Tryz.prog 145 := enters_of Proofs.Tryz.func145 rfl rfl
theorem en146 : Enters Proofs.Tryz.prog 146 := enters_of Proofs.Tryz.func146 rfl rfl
theorem en147 : Enters Proofs.Tryz.prog 147 := enters_of Proofs.Tryz.func147 rfl rfl
theorem en148 : Enters Proofs.Tryz.prog 148 := enters_of Proofs.Tryz.func148 rfl rfl
theorem en149 : Enters Proofs.Tryz.prog 149 := enters_of Proofs.Tryz.func149 rfl rfl
theorem en150 : Enters Proofs.Tryz.prog 150 := enters_of Proofs.Tryz.func150 rfl rfl
theorem en151 : Enters Proofs.Tryz.prog 151 := enters_of Proofs.Tryz.func151 rfl rfl
theorem en152 : Enters Proofs.Tryz.prog 152 := enters_of Proofs.Tryz.func152 rfl rfl
theorem en153 : Enters Proofs.Tryz.prog 153 := enters_of Proofs.Tryz.func153 rfl rfl
theorem en154 : Enters Proofs.Tryz.prog 154 := enters_of Proofs.Tryz.func154 rfl rfl
theorem en155 : Enters Proofs.Tryz.prog 155 := enters_of Proofs.Tryz.func155 rfl rfl
theorem en156 : Enters Proofs.Tryz.prog 156 := enters_of Proofs.Tryz.func156 rfl rfl
theorem en157 : Enters Proofs.Tryz.prog 157 := enters_of Proofs.Tryz.func157 rfl rfl
theorem en158 : Enters Proofs.Tryz.prog 158 := enters_of Proofs.Tryz.func158 rfl rfl
theorem en159 : Enters Proofs.Tryz.prog 159 := enters_of Proofs.Tryz.func159 rfl rfl
theorem en166 : Enters Proofs.Tryz.prog 166 := enters_of Proofs.Tryz.func166 rfl rfl
theorem en168 : Enters Proofs.Tryz.prog 168 := enters_of Proofs.Tryz.func168 rfl rfl
theorem en169 : Enters Proofs.Tryz.prog 169 := enters_of Proofs.Tryz.func169 rfl rfl
theorem en170 : Enters Proofs.Tryz.prog 170 := enters_of Proofs.Tryz.func170 rfl rfl
theorem en171 : Enters Proofs.Tryz.prog 171 := enters_of Proofs.Tryz.func171 rfl rfl
theorem en172 : Enters Proofs.Tryz.prog 172 := enters_of Proofs.Tryz.func172 rfl rfl
theorem en174 : Enters Proofs.Tryz.prog 174 := enters_of Proofs.Tryz.func174 rfl rfl
theorem en175 : Enters Proofs.Tryz.prog 175 := enters_of Proofs.Tryz.func175 rfl rfl
theorem en176 : Enters Proofs.Tryz.prog 176 := enters_of Proofs.Tryz.func176 rfl rfl
theorem en177 : Enters Proofs.Tryz.prog 177 := enters_of Proofs.Tryz.func177 rfl rfl
theorem en178 : Enters Proofs.Tryz.prog 178 := enters_of Proofs.Tryz.func178 rfl rfl
theorem en179 : Enters Proofs.Tryz.prog 179 := enters_of Proofs.Tryz.func179 rfl rfl
theorem en189 : Enters Proofs.Tryz.prog 189 := enters_of Proofs.Tryz.func189 rfl rfl
theorem en194 : Enters Proofs.Tryz.prog 194 := enters_of Proofs.Tryz.func194 rfl rfl
theorem en205 : Enters Proofs.Tryz.prog 205 := enters_of Proofs.Tryz.func205 rfl rfl
theorem en206 : Enters Proofs.Tryz.prog 206 := enters_of Proofs.Tryz.func206 rfl rfl
theorem en207 : Enters Proofs.Tryz.prog 207 := enters_of Proofs.Tryz.func207 rfl rfl
theorem en208 : Enters Proofs.Tryz.prog 208 := enters_of Proofs.Tryz.func208 rfl rfl
theorem en214 : Enters Proofs.Tryz.prog 214 := enters_of Proofs.Tryz.func214 rfl rfl
theorem en215 : Enters Proofs.Tryz.prog 215 := enters_of Proofs.Tryz.func215 rfl rfl
theorem en216 : Enters Proofs.Tryz.prog 216 := enters_of Proofs.Tryz.func216 rfl rfl
theorem en217 : Enters Proofs.Tryz.prog 217 := enters_of Proofs.Tryz.func217 rfl rfl
theorem en218 : Enters Proofs.Tryz.prog 218 := enters_of Proofs.Tryz.func218 rfl rfl
theorem en220 : Enters Proofs.Tryz.prog 220 := enters_of Proofs.Tryz.func220 rfl rfl
theorem en221 : Enters Proofs.Tryz.prog 221 := enters_of Proofs.Tryz.func221 rfl rfl
attribute [go_sem] en9 en10 en15 en16 en17 en18 en19 en20 en21 en22 en23 en27 en29 en30 en31 en32 en35 en37 en38 en41 en43 en44 en49 en50 en55 en56 en57 en58 en63 en64 en65 en66 en67 en68 en70 en71 en77 en78 en79 en80 en81 en82 en83 en84 en85 en86 en87 en88 en89 en90 en93 en94 en95 en96 en97 en98 en99 en100 en104 en105 en106 en109 en110 en111 en112 en113 en114 en115 en118 en119 en120 en121 en122 en124 en125 en126 en128 en129 en131 en132 en133 en140 en145 en146 en147 en148 en149 en150 en151 en152 en153 en154 en155 en156 en157 en158 en159 en166 en168 en169 en170 en171 en172 en174 en175 en176 en177 en178 en179 en189 en194 en205 en206 en207 en208 en214 en215 en216 en217 en218 en220 en221
theorem foll : Proofs.Tryz.prog.follows .mixedOrders = true := by kernel_rfl
@[go_sem] theorem eqg45 : Proofs.Tryz.prog.eqGuardType Proofs.Tryz.prog.depth 45 = false := by kernel_rfl
@[go_sem] theorem sih45 : Proofs.Tryz.prog.stoodInHeld 45 = false := by kernel_rfl
@[go_sem] theorem eqg49 : Proofs.Tryz.prog.eqGuardType Proofs.Tryz.prog.depth 49 = false := by kernel_rfl
@[go_sem] theorem sih49 : Proofs.Tryz.prog.stoodInHeld 49 = false := by kernel_rfl
@[go_sem] theorem eqg70 : Proofs.Tryz.prog.eqGuardType Proofs.Tryz.prog.depth 70 = false := by kernel_rfl
@[go_sem] theorem sih70 : Proofs.Tryz.prog.stoodInHeld 70 = false := by kernel_rfl
@[go_sem] theorem eqg89 : Proofs.Tryz.prog.eqGuardType Proofs.Tryz.prog.depth 89 = false := by kernel_rfl
@[go_sem] theorem sih89 : Proofs.Tryz.prog.stoodInHeld 89 = false := by kernel_rfl
@[go_sem] theorem eqg119 : Proofs.Tryz.prog.eqGuardType Proofs.Tryz.prog.depth 119 = false := by kernel_rfl
@[go_sem] theorem sih119 : Proofs.Tryz.prog.stoodInHeld 119 = false := by kernel_rfl
@[go_sem] theorem eqg162 : Proofs.Tryz.prog.eqGuardType Proofs.Tryz.prog.depth 162 = false := by kernel_rfl
@[go_sem] theorem sih162 : Proofs.Tryz.prog.stoodInHeld 162 = false := by kernel_rfl
attribute [go_sem] eqT eqF eqA String.reduceEq
def G0 : Nat → V := fun g => if g = 0 then .cptr [.str [108, 97, 121, 101, 114]] else if g = 3 then .tabp [.int .u64 1, .int .u64 10, .int .u64 100, .int .u64 1000, .int .u64 10000, .int .u64 100000, .int .u64 1000000, .int .u64 10000000, .int .u64 100000000, .int .u64 1000000000, .int .u64 10000000000, .int .u64 100000000000, .int .u64 1000000000000, .int .u64 10000000000000, .int .u64 100000000000000, .int .u64 1000000000000000, .int .u64 10000000000000000, .int .u64 100000000000000000, .int .u64 1000000000000000000, .int .u64 10000000000000000000] else .top
@[go_sem] theorem G0_0 : G0 0 = .cptr [.str [108, 97, 121, 101, 114]] := rfl
@[go_sem] theorem G0_3 : G0 3 = .tabp [.int .u64 1, .int .u64 10, .int .u64 100, .int .u64 1000, .int .u64 10000, .int .u64 100000, .int .u64 1000000, .int .u64 10000000, .int .u64 100000000, .int .u64 1000000000, .int .u64 10000000000, .int .u64 100000000000, .int .u64 1000000000000, .int .u64 10000000000000, .int .u64 100000000000000, .int .u64 1000000000000000, .int .u64 10000000000000000, .int .u64 100000000000000000, .int .u64 1000000000000000000, .int .u64 10000000000000000000] := rfl
theorem G0_ok : ∀ g, Pu (G0 g) ∨ G0 g = .top := fun g => by
  unfold G0
  split
  · left; first | exact .tabp _ | simp only [go_sem, ↓op_move, ↓op_assign, ↓op_pick, ↓op_alloc, ↓op_box, ↓op_build, ↓op_buildSlice, ↓op_load, ↓op_store, ↓op_nilCheck, ↓op_bin, ↓op_un, ↓op_convert, ↓op_makeFunc, ↓op_makeSlice, ↓op_slice, ↓op_fieldAddr, ↓op_field, ↓op_indexAddr, ↓op_index, ↓op_extract, ↓op_lookup, ↓op_mapUpdate, ↓op_makeMap, ↓op_range, ↓op_next, ↓op_call, ↓op_builtin, ↓g_tt, ↓g_ff, ↓g_tf, ↓g_ft, ↓g_tnt, ↓g_tnf, ↓g_fnt, ↓g_fnf]
  split
  · left; first | exact .tabp _ | simp only [go_sem, ↓op_move, ↓op_assign, ↓op_pick, ↓op_alloc, ↓op_box, ↓op_build, ↓op_buildSlice, ↓op_load, ↓op_store, ↓op_nilCheck, ↓op_bin, ↓op_un, ↓op_convert, ↓op_makeFunc, ↓op_makeSlice, ↓op_slice, ↓op_fieldAddr, ↓op_field, ↓op_indexAddr, ↓op_index, ↓op_extract, ↓op_lookup, ↓op_mapUpdate, ↓op_makeMap, ↓op_range, ↓op_next, ↓op_call, ↓op_builtin, ↓g_tt, ↓g_ff, ↓g_tf, ↓g_ft, ↓g_tnt, ↓g_tnf, ↓g_fnt, ↓g_fnf]
  exact .inr rfl
theorem tab_ok {l : List (FuncId × Contract)} (h : TabOk Proofs.Tryz.prog G0 l) : ∀ g C, tab l g = some C → Holds Proofs.Tryz.prog G0 g C := tab_okG h
end Go.Fly.Tryz
