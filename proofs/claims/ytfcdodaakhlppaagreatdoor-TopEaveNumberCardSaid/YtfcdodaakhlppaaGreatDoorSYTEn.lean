/- MADE BY PROGRAM (genen.py). -/
import Derived.Test.YtfcdodaakhlppaaGreatDoorSYTDr
import Derived.Test.YtfcdodaakhlppaaGreatDoorAF
set_option linter.unusedSimpArgs false
set_option linter.unusedVariables false
namespace Go.Fly.Tryz
open Go
theorem en4 : Enters Proofs.Tryz.prog 4 := enters_of Proofs.Tryz.func4 rfl rfl
theorem en7 : Enters Proofs.Tryz.prog 7 := enters_of Proofs.Tryz.func7 rfl rfl
theorem en8 : Enters Proofs.Tryz.prog 8 := enters_of Proofs.Tryz.func8 rfl rfl
theorem en9 : Enters Proofs.Tryz.prog 9 := enters_of Proofs.Tryz.func9 rfl rfl
theorem en10 : Enters Proofs.Tryz.prog 10 := enters_of Proofs.Tryz.func10 rfl rfl
theorem en11 : Enters Proofs.Tryz.prog 11 := enters_of Proofs.Tryz.func11 rfl rfl
theorem en15 : Enters Proofs.Tryz.prog 15 := enters_of Proofs.Tryz.func15 rfl rfl
theorem en16 : Enters Proofs.Tryz.prog 16 := enters_of Proofs.Tryz.func16 rfl rfl
theorem en17 : Enters Proofs.Tryz.prog 17 := enters_of Proofs.Tryz.func17 rfl rfl
theorem en18 : Enters Proofs.Tryz.prog 18 := enters_of Proofs.Tryz.func18 rfl rfl
theorem en19 : Enters Proofs.Tryz.prog 19 := enters_of Proofs.Tryz.func19 rfl rfl
theorem en20 : Enters Proofs.Tryz.prog 20 := enters_of Proofs.Tryz.func20 rfl rfl
theorem en21 : Enters Proofs.Tryz.prog 21 := enters_of Proofs.Tryz.func21 rfl rfl
theorem en22 : Enters Proofs.Tryz.prog 22 := enters_of Proofs.Tryz.func22 rfl rfl
theorem en23 : Enters Proofs.Tryz.prog 23 := enters_of Proofs.Tryz.func23 rfl rfl
theorem en24 : Enters Proofs.Tryz.prog 24 := enters_of Proofs.Tryz.func24 rfl rfl
theorem en25 : Enters Proofs.Tryz.prog 25 := enters_of Proofs.Tryz.func25 rfl rfl
theorem en45 : Enters Proofs.Tryz.prog 45 := enters_of Proofs.Tryz.func45 rfl rfl
theorem en46 : Enters Proofs.Tryz.prog 46 := enters_of Proofs.Tryz.func46 rfl rfl
theorem en47 : Enters Proofs.Tryz.prog 47 := enters_of Proofs.Tryz.func47 rfl rfl
theorem en48 : Enters Proofs.Tryz.prog 48 := enters_of Proofs.Tryz.func48 rfl rfl
theorem en49 : Enters Proofs.Tryz.prog 49 := enters_of Proofs.Tryz.func49 rfl rfl
theorem en50 : Enters Proofs.Tryz.prog 50 := enters_of Proofs.Tryz.func50 rfl rfl
theorem en51 : Enters Proofs.Tryz.prog 51 := enters_of Proofs.Tryz.func51 rfl rfl
theorem en52 : Enters Proofs.Tryz.prog 52 := enters_of Proofs.Tryz.func52 rfl rfl
theorem en53 : Enters Proofs.Tryz.prog 53 := enters_of Proofs.Tryz.func53 rfl rfl
theorem en54 : Enters Proofs.Tryz.prog 54 := enters_of Proofs.Tryz.func54 rfl rfl
theorem en55 : Enters Proofs.Tryz.prog 55 := enters_of Proofs.Tryz.func55 rfl rfl
theorem en56 : Enters Proofs.Tryz.prog 56 := enters_of Proofs.Tryz.func56 rfl rfl
theorem en57 : Enters Proofs.Tryz.prog 57 := enters_of Proofs.Tryz.func57 rfl rfl
theorem en58 : Enters Proofs.Tryz.prog 58 := enters_of Proofs.Tryz.func58 rfl rfl
theorem en59 : Enters Proofs.Tryz.prog 59 := enters_of Proofs.Tryz.func59 rfl rfl
theorem en60 : Enters Proofs.Tryz.prog 60 := enters_of Proofs.Tryz.func60 rfl rfl
theorem en61 : Enters Proofs.Tryz.prog 61 := enters_of Proofs.Tryz.func61 rfl rfl
theorem en62 : Enters Proofs.Tryz.prog 62 := enters_of Proofs.Tryz.func62 rfl rfl
theorem en63 : Enters Proofs.Tryz.prog 63 := enters_of Proofs.Tryz.func63 rfl rfl
theorem en64 : Enters Proofs.Tryz.prog 64 := enters_of Proofs.Tryz.func64 rfl rfl
theorem en65 : Enters Proofs.Tryz.prog 65 := enters_of Proofs.Tryz.func65 rfl rfl
theorem en66 : Enters Proofs.Tryz.prog 66 := enters_of Proofs.Tryz.func66 rfl rfl
theorem en67 : Enters Proofs.Tryz.prog 67 := enters_of Proofs.Tryz.func67 rfl rfl
theorem en68 : Enters Proofs.Tryz.prog 68 := enters_of Proofs.Tryz.func68 rfl rfl
theorem en69 : Enters Proofs.Tryz.prog 69 := enters_of Proofs.Tryz.func69 rfl rfl
theorem en78 : Enters Proofs.Tryz.prog 78 := enters_of Proofs.Tryz.func78 rfl rfl
theorem en92 : Enters Proofs.Tryz.prog 92 := enters_of Proofs.Tryz.func92 rfl rfl
theorem en95 : Enters Proofs.Tryz.prog 95 := enters_of Proofs.Tryz.func95 rfl rfl
theorem en96 : Enters Proofs.Tryz.prog 96 := enters_of Proofs.Tryz.func96 rfl rfl
theorem en97 : Enters Proofs.Tryz.prog 97 := enters_of Proofs.Tryz.func97 rfl rfl
theorem en98 : Enters Proofs.Tryz.prog 98 := enters_of Proofs.Tryz.func98 rfl rfl
theorem en99 : Enters Proofs.Tryz.prog 99 := enters_of Proofs.Tryz.func99 rfl rfl
theorem en100 : Enters Proofs.Tryz.prog 100 := enters_of Proofs.Tryz.func100 rfl rfl
theorem en101 : Enters Proofs.Tryz.prog 101 := enters_of Proofs.Tryz.func101 rfl rfl
theorem en102 : Enters Proofs.Tryz.prog 102 := enters_of Proofs.Tryz.func102 rfl rfl
theorem en103 : Enters Proofs.Tryz.prog 103 := enters_of Proofs.Tryz.func103 rfl rfl
theorem en104 : Enters Proofs.Tryz.prog 104 := enters_of Proofs.Tryz.func104 rfl rfl
theorem en105 : Enters Proofs.Tryz.prog 105 := enters_of Proofs.Tryz.func105 rfl rfl
theorem en106 : Enters Proofs.Tryz.prog 106 := enters_of Proofs.Tryz.func106 rfl rfl
theorem en107 : Enters Proofs.Tryz.prog 107 := enters_of Proofs.Tryz.func107 rfl rfl
theorem en108 : Enters Proofs.Tryz.prog 108 := enters_of Proofs.Tryz.func108 rfl rfl
theorem en109 : Enters Proofs.Tryz.prog 109 := enters_of Proofs.Tryz.func109 rfl rfl
theorem en110 : Enters Proofs.Tryz.prog 110 := enters_of Proofs.Tryz.func110 rfl rfl
theorem en111 : Enters Proofs.Tryz.prog 111 := enters_of Proofs.Tryz.func111 rfl rfl
theorem en112 : Enters Proofs.Tryz.prog 112 := enters_of Proofs.Tryz.func112 rfl rfl
theorem en113 : Enters Proofs.Tryz.prog 113 := enters_of Proofs.Tryz.func113 rfl rfl
theorem en114 : Enters Proofs.Tryz.prog 114 := enters_of Proofs.Tryz.func114 rfl rfl
theorem en115 : Enters Proofs.Tryz.prog 115 := enters_of Proofs.Tryz.func115 rfl rfl
theorem en116 : Enters Proofs.Tryz.prog 116 := enters_of Proofs.Tryz.func116 rfl rfl
theorem en117 : Enters Proofs.Tryz.prog 117 := enters_of Proofs.Tryz.func117 rfl rfl
theorem en118 : Enters Proofs.Tryz.prog 118 := enters_of Proofs.Tryz.func118 rfl rfl
theorem en134 : Enters Proofs.Tryz.prog 134 := enters_of Proofs.Tryz.func134 rfl rfl
theorem en136 : Enters Proofs.Tryz.prog 136 := enters_of Proofs.Tryz.func136 rfl rfl
theorem en137 : Enters Proofs.Tryz.prog 137 := enters_of Proofs.Tryz.func137 rfl rfl
theorem en156 : Enters Proofs.Tryz.prog 156 := enters_of Proofs.Tryz.func156 rfl rfl
theorem en157 : Enters Proofs.Tryz.prog 157 := enters_of Proofs.Tryz.func157 rfl rfl
theorem en158 : Enters Proofs.Tryz.prog 158 := enters_of Proofs.Tryz.func158 rfl rfl
theorem en159 : Enters Proofs.Tryz.prog 159 := enters_of Proofs.Tryz.func159 rfl rfl
theorem en160 : Enters Proofs.Tryz.prog 160 := enters_of Proofs.Tryz.func160 rfl rfl
theorem en161 : Enters Proofs.Tryz.prog 161 := enters_of Proofs.Tryz.func161 rfl rfl
theorem en162 : Enters Proofs.Tryz.prog 162 := enters_of Proofs.Tryz.func162 rfl rfl
theorem en163 : Enters Proofs.Tryz.prog 163 := enters_of Proofs.Tryz.func163 rfl rfl
theorem en164 : Enters Proofs.Tryz.prog 164 := enters_of Proofs.Tryz.func164 rfl rfl
theorem en165 : Enters Proofs.Tryz.prog 165 := enters_of Proofs.Tryz.func165 rfl rfl
theorem en166 : Enters Proofs.Tryz.prog 166 := enters_of Proofs.Tryz.func166 rfl rfl
theorem en167 : Enters Proofs.Tryz.prog 167 := enters_of Proofs.Tryz.func167 rfl rfl
theorem en168 : Enters Proofs.Tryz.prog 168 := enters_of Proofs.Tryz.func168 rfl rfl
theorem en169 : Enters Proofs.Tryz.prog 169 := enters_of Proofs.Tryz.func169 rfl rfl
theorem en170 : Enters Proofs.Tryz.prog 170 := enters_of Proofs.Tryz.func170 rfl rfl
theorem en171 : Enters Proofs.Tryz.prog 171 := enters_of Proofs.Tryz.func171 rfl rfl
theorem en172 : Enters Proofs.Tryz.prog 172 := enters_of Proofs.Tryz.func172 rfl rfl
theorem en173 : Enters Proofs.Tryz.prog 173 := enters_of Proofs.Tryz.func173 rfl rfl
theorem en174 : Enters Proofs.Tryz.prog 174 := enters_of Proofs.Tryz.func174 rfl rfl
theorem en175 : Enters Proofs.Tryz.prog 175 := enters_of Proofs.Tryz.func175 rfl rfl
theorem en176 : Enters Proofs.Tryz.prog 176 := enters_of Proofs.Tryz.func176 rfl rfl
theorem en177 : Enters Proofs.Tryz.prog 177 := enters_of Proofs.Tryz.func177 rfl rfl
theorem en178 : Enters Proofs.Tryz.prog 178 := enters_of Proofs.Tryz.func178 rfl rfl
theorem en179 : Enters Proofs.Tryz.prog 179 := enters_of Proofs.Tryz.func179 rfl rfl
theorem en180 : Enters Proofs.Tryz.prog 180 := enters_of Proofs.Tryz.func180 rfl rfl
theorem en181 : Enters Proofs.Tryz.prog 181 := enters_of Proofs.Tryz.func181 rfl rfl
theorem en182 : Enters Proofs.Tryz.prog 182 := enters_of Proofs.Tryz.func182 rfl rfl
theorem en183 : Enters Proofs.Tryz.prog 183 := enters_of Proofs.Tryz.func183 rfl rfl
theorem en184 : Enters Proofs.Tryz.prog 184 := enters_of Proofs.Tryz.func184 rfl rfl
theorem en185 : Enters Proofs.Tryz.prog 185 := enters_of Proofs.Tryz.func185 rfl rfl
theorem en186 : Enters Proofs.Tryz.prog 186 := enters_of Proofs.Tryz.func186 rfl rfl
theorem en187 : Enters Proofs.Tryz.prog 187 := enters_of Proofs.Tryz.func187 rfl rfl
theorem en190 : Enters Proofs.Tryz.prog 190 := enters_of Proofs.Tryz.func190 rfl rfl
theorem en191 : Enters Proofs.Tryz.prog 191 := enters_of Proofs.Tryz.func191 rfl rfl
theorem en192 : Enters Proofs.Tryz.prog 192 := enters_of Proofs.Tryz.func192 rfl rfl
theorem en193 : Enters Proofs.Tryz.prog 193 := enters_of Proofs.Tryz.func193 rfl rfl
theorem en194 : Enters Proofs.Tryz.prog 194 := enters_of Proofs.Tryz.func194 rfl rfl
theorem en195 : Enters Proofs.Tryz.prog 195 := enters_of Proofs.Tryz.func195 rfl rfl
theorem en196 : Enters Proofs.Tryz.prog 196 := enters_of Proofs.Tryz.func196 rfl rfl
theorem en197 : Enters Proofs.Tryz.prog 197 := enters_of Proofs.Tryz.func197 rfl rfl
theorem en198 : Enters Proofs.Tryz.prog 198 := enters_of Proofs.Tryz.func198 rfl rfl
theorem en199 : Enters Proofs.Tryz.prog 199 := enters_of Proofs.Tryz.func199 rfl rfl
theorem en200 : Enters Proofs.Tryz.prog 200 := enters_of Proofs.Tryz.func200 rfl rfl
theorem en201 : Enters Proofs.Tryz.prog 201 := enters_of Proofs.Tryz.func201 rfl rfl
theorem en202 : Enters Proofs.Tryz.prog 202 := enters_of Proofs.Tryz.func202 rfl rfl
theorem en203 : Enters Proofs.Tryz.prog 203 := enters_of Proofs.Tryz.func203 rfl rfl
theorem en204 : Enters Proofs.Tryz.prog 204 := enters_of Proofs.Tryz.func204 rfl rfl
theorem en205 : Enters Proofs.Tryz.prog 205 := enters_of Proofs.Tryz.func205 rfl rfl
theorem en206 : Enters Proofs.Tryz.prog 206 := enters_of Proofs.Tryz.func206 rfl rfl
theorem en207 : Enters Proofs.Tryz.prog 207 := enters_of Proofs.Tryz.func207 rfl rfl
theorem en208 : Enters Proofs.Tryz.prog 208 := enters_of Proofs.Tryz.func208 rfl rfl
theorem en209 : Enters Proofs.Tryz.prog 209 := enters_of Proofs.Tryz.func209 rfl rfl
theorem en230 : Enters Proofs.Tryz.prog 230 := enters_of Proofs.Tryz.func230 rfl rfl
theorem en231 : Enters Proofs.Tryz.prog 231 := enters_of Proofs.Tryz.func231 rfl rfl
theorem en232 : Enters Proofs.Tryz.prog 232 := enters_of Proofs.Tryz.func232 rfl rfl
theorem en233 : Enters Proofs.Tryz.prog 233 := enters_of Proofs.Tryz.func233 rfl rfl
theorem en234 : Enters Proofs.Tryz.prog 234 := enters_of Proofs.Tryz.func234 rfl rfl
theorem en235 : Enters Proofs.Tryz.prog 235 := enters_of Proofs.Tryz.func235 rfl rfl
theorem en236 : Enters Proofs.Tryz.prog 236 := enters_of Proofs.Tryz.func236 rfl rfl
theorem en237 : Enters Proofs.Tryz.prog 237 := enters_of Proofs.Tryz.func237 rfl rfl
theorem en255 : Enters Proofs.Tryz.prog 255 := enters_of Proofs.Tryz.func255 rfl rfl
attribute [go_sem] en4 en7 en8 en9 en10 en11 en15 en16 en17 en18 en19 en20 en21 en22 en23 en24 en25 en45 en46 en47 en48 en49 en50 en51 en52 en53 en54 en55 en56 en57 en58 en59 en60 en61 en62 en63 en64 en65 en66 en67 en68 en69 en78 en92 en95 en96 en97 en98 en99 en100 en101 en102 en103 en104 en105 en106 en107 en108 en109 en110 en111 en112 en113 en114 en115 en116 en117 en118 en134 en136 en137 en156 en157 en158 en159 en160 en161 en162 en163 en164 en165 en166 en167 en168 en169 en170 en171 en172 en173 en174 en175 en176 en177 en178 en179 en180 en181 en182 en183 en184 en185 en186 en187 en190 en191 en192 en193 en194 en195 en196 en197 en198 en199 en200 en201 en202 en203 en204 en205 en206 en207 en208 en209 en230 en231 en232 en233 en234 en235 en236 en237 en255
theorem foll : Proofs.Tryz.prog.follows .mixedOrders = true := by kernel_rfl
@[go_sem] theorem eqg37 : Proofs.Tryz.prog.eqGuardType Proofs.Tryz.prog.depth 37 = false := by kernel_rfl
@[go_sem] theorem sih37 : Proofs.Tryz.prog.stoodInHeld 37 = false := by kernel_rfl
@[go_sem] theorem eqg65 : Proofs.Tryz.prog.eqGuardType Proofs.Tryz.prog.depth 65 = false := by kernel_rfl
@[go_sem] theorem sih65 : Proofs.Tryz.prog.stoodInHeld 65 = false := by kernel_rfl
@[go_sem] theorem eqg71 : Proofs.Tryz.prog.eqGuardType Proofs.Tryz.prog.depth 71 = false := by kernel_rfl
@[go_sem] theorem sih71 : Proofs.Tryz.prog.stoodInHeld 71 = false := by kernel_rfl
@[go_sem] theorem eqg86 : Proofs.Tryz.prog.eqGuardType Proofs.Tryz.prog.depth 86 = false := by kernel_rfl
@[go_sem] theorem sih86 : Proofs.Tryz.prog.stoodInHeld 86 = false := by kernel_rfl
@[go_sem] theorem eqg89 : Proofs.Tryz.prog.eqGuardType Proofs.Tryz.prog.depth 89 = false := by kernel_rfl
@[go_sem] theorem sih89 : Proofs.Tryz.prog.stoodInHeld 89 = false := by kernel_rfl
@[go_sem] theorem eqg136 : Proofs.Tryz.prog.eqGuardType Proofs.Tryz.prog.depth 136 = false := by kernel_rfl
@[go_sem] theorem sih136 : Proofs.Tryz.prog.stoodInHeld 136 = false := by kernel_rfl
@[go_sem] theorem eqg161 : Proofs.Tryz.prog.eqGuardType Proofs.Tryz.prog.depth 161 = false := by kernel_rfl
@[go_sem] theorem sih161 : Proofs.Tryz.prog.stoodInHeld 161 = false := by kernel_rfl
attribute [go_sem] eqT eqF eqA String.reduceEq
def G0 : Nat → V := fun g => if g = 0 then .cptr [.str [112, 117, 98, 108, 105, 115, 104], .str [112, 97, 121]] else if g = 3 then .cptr [.int .i64 10, .int .i64 13, .int .i64 16, .int .i64 20, .int .i64 25, .int .i64 32, .int .i64 40, .int .i64 50, .int .i64 63, .int .i64 79] else .top
@[go_sem] theorem G0_0 : G0 0 = .cptr [.str [112, 117, 98, 108, 105, 115, 104], .str [112, 97, 121]] := rfl
@[go_sem] theorem G0_3 : G0 3 = .cptr [.int .i64 10, .int .i64 13, .int .i64 16, .int .i64 20, .int .i64 25, .int .i64 32, .int .i64 40, .int .i64 50, .int .i64 63, .int .i64 79] := rfl
theorem G0_ok : ∀ g, Pu (G0 g) ∨ G0 g = .top := fun g => by
  unfold G0
  split
  · left; first | exact .tabp _ | simp only [go_sem, ↓upXAbsY]
  split
  · left; first | exact .tabp _ | simp only [go_sem, ↓upXAbsY]
  exact .inr rfl
theorem tab_ok {l : List (FuncId × Contract)} (h : TabOk Proofs.Tryz.prog G0 l) : ∀ g C, tab l g = some C → Holds Proofs.Tryz.prog G0 g C := tab_okG h
end Go.Fly.Tryz
