/- Part of a proof: an evaluator of the model's code by abstract values, and plain laws for it. No conditions. -/
import Derived.Test.YtfpoimbidpojnaaGreatDoorAS
import Derived.KernelRfl
set_option linter.unusedSimpArgs false
set_option linter.unusedVariables false
/- The fixed example of the law on walls. -/
namespace Go.Fly
open Go
def wayW : Nat → List V := rowAt [.str [119], .int .i64 0, .int .i64 (-10), .int .i64 0, .int .i64 10, .int .i64 6, .int .i64 500] 7
def wayT : Nat → List V := rowAt [.int .i64 1, .int .i64 800] 2
def wayP : Nat → List V := rowAt [.int .i64 900, .int .i64 900] 2
def wayA : Nat → List V := rowAt [.int .i64 100, .int .i64 340, .int .i64 0, .int .i64 0, .sl 1 2 wayP] 5
def wayE : Nat → List V := rowAt [.int .i64 800] 1
theorem wayW_eq : rowAt [.str [119], .int .i64 0, .int .i64 (-10), .int .i64 0, .int .i64 10, .int .i64 6, .int .i64 500] 7 = wayW := rfl
theorem wayT_eq : rowAt [.int .i64 1, .int .i64 800] 2 = wayT := rfl
theorem wayP_eq : rowAt [.int .i64 900, .int .i64 900] 2 = wayP := rfl
theorem wayA_eq : rowAt [.int .i64 100, .int .i64 340, .int .i64 0, .int .i64 0, .sl 1 2 wayP] 5 = wayA := rfl
theorem wayE_eq : rowAt [.int .i64 800] 1 = wayE := rfl
theorem one_case {p : Nat → Prop} (h : p 0) : ∀ i, i < 1 → p i := fun i hi => by
  obtain rfl : i = 0 := by omega
  exact h
theorem wayW_is : IsWalls 1 wayW := ⟨by decide, one_case ⟨rfl, by decide⟩⟩
theorem wayT_is : IsIv 1 wayT := ⟨by decide, one_case rfl⟩
theorem wayP_is : IsIv 1 wayP := ⟨by decide, one_case rfl⟩
theorem wayA_is : IsAir 1 wayA := ⟨by decide, one_case ⟨rfl, wayP_is⟩⟩
theorem wayE_is : IsInts 1 wayE := ⟨by decide, one_case rfl⟩
theorem wayW_ok : WallsOk 1 wayW := wallsE_zero.1 (by kernel_rfl)
theorem wayT_ok : TabOk2 1 wayT := tableE_zero (by kernel_rfl)
theorem wayA_ae : airE 1 wayA = 0 := by kernel_rfl
theorem wayA_in : inN wayA 0 4 = 1 := by kernel_rfl
theorem wayE_at : intAt wayE 0 = 800 := by kernel_rfl
theorem way1 : rootE (sqE (-8) 0 2 4 0 5) 1 = 12 := by kernel_rfl
theorem way2 : rootUp (sqE (-8) 0 2 4 0 5) 1 = 13 := by kernel_rfl
theorem way3 : lenLo 153 = 12 := by kernel_rfl
theorem way4 : lenHi 153 = 13 := by kernel_rfl
theorem way5 : scrLo 1000 (scrF 1 wayW 1 wayT (-8) 0 2 4 0 5) = 800 := by kernel_rfl
theorem way6 : scrHi 1000 (scrF 1 wayW 1 wayT (-8) 0 2 4 0 5) = 800 := by kernel_rfl
theorem way7 : arrLo (intAt wayE 0) (pLo 1 wayA (-8) 0 2 4 0 5 0) = 720 := by kernel_rfl
theorem way8 : arrHi (intAt wayE 0) (pHi 1 wayA (-8) 0 2 4 0 5 0) = 800 := by kernel_rfl
theorem way9 : PathOk (-8) 0 2 4 0 5 := ⟨⟨by decide, by decide, by decide⟩, ⟨by decide, by decide, by decide⟩, by decide⟩
theorem way10 : SpotOk (-8) 0 2 := ⟨by decide, by decide, by decide⟩
theorem way11 : SpotOk 4 0 5 := ⟨by decide, by decide, by decide⟩
end Go.Fly
