/- Part of a proof: an evaluator of the model's code by abstract values, and plain laws for it. No conditions. -/
import Derived.Test.YtmlknpghkclffaaGreatDoorAS
import Derived.KernelRfl
set_option linter.unusedSimpArgs false
set_option linter.unusedVariables false
/- The fixed examples of the law on the air. -/
namespace Go.Fly
open Go
def sameG (n : Nat) (a : Nat → List V) (m : Nat) (b : Nat → List V) : Bool := decide (n = m) && decide (∀ i, i < n → cell a i 0 = cell b i 0 ∧ cell a i 1 = cell b i 1)
def sameIvC : Contract := fun _ args =>
  match args with
  | [.sl n sz a, .sl n' sz' b] => ⟨sz = 2 ∧ sz' = 2 ∧ IsIv n a ∧ IsIv n' b, .bool (sameG n a n' b), none⟩
  | _ => ⟨False, .top, none⟩
def sameN (n : Nat) (a : Nat → List V) (m : Nat) (b : Nat → List V) : Bool := decide (n = m) && decide (∀ i, i < n → intAt a i = intAt b i)
def sameNV : V → V → Bool
  | .sl n _ a, .sl m _ b => sameN n a m b
  | _, _ => true
def sameNtC : Contract := fun _ args =>
  match args with
  | [x, y] => ⟨(x = .nils ∧ y = .nils) ∨ ∃ n a m b, x = .sl n 1 a ∧ y = .sl m 1 b ∧ IsInts n a ∧ IsInts m b, .bool (sameNV x y), none⟩
  | _ => ⟨False, .top, none⟩
def ofIvC : Contract := fun _ args =>
  match args with
  | [.int .i64 a, .int .i64 b] => ⟨True, .agg [.int .i64 a, .int .i64 b], none⟩
  | _ => ⟨False, .top, none⟩
def vecC : Contract := fun _ args =>
  match args with
  | [.int .i64 a, .int .i64 b, .int .i64 c] => ⟨True, .agg [.int .i64 a, .int .i64 b, .int .i64 c], none⟩
  | _ => ⟨False, .top, none⟩
def toPathC : Contract := fun _ args =>
  match args with
  | [.agg [.int .i64 a, .int .i64 b, .int .i64 c], .agg [.int .i64 d, .int .i64 e, .int .i64 f]] => ⟨True, .agg [.int .i64 a, .int .i64 b, .int .i64 c, .int .i64 d, .int .i64 e, .int .i64 f], none⟩
  | _ => ⟨False, .top, none⟩
def twoP : Nat → List V := rowAt [.int .i64 900, .int .i64 950] 2
def twoQ : Nat → List V := rowAt [.int .i64 800, .int .i64 800] 2
def twoA : Nat → List V := rowAt [.int .i64 100, .int .i64 340, .int .i64 0, .int .i64 0, .sl 1 2 twoP, .int .i64 50, .int .i64 341, .int .i64 10, .int .i64 0, .sl 1 2 twoQ] 5
def twoC : Contract := fun _ args =>
  match args with
  | [] => ⟨True, .sl 2 5 twoA, none⟩
  | _ => ⟨False, .top, none⟩
def awakeC : Contract := fun _ args =>
  match args with
  | [] => ⟨True, .bool true, none⟩
  | _ => ⟨False, .top, none⟩
attribute [go_sem] sameNV sameIvC sameNtC ofIvC vecC toPathC twoC awakeC
theorem twoP_is : IsIv 1 twoP := ⟨by decide, fun i hi => by obtain rfl : i = 0 := by omega
                                                            rfl⟩
theorem twoQ_is : IsIv 1 twoQ := ⟨by decide, fun i hi => by obtain rfl : i = 0 := by omega
                                                            rfl⟩
theorem twoA_is : IsAir 2 twoA := isAir_two twoP_is twoQ_is
theorem orE_0 {z g : V} : orE 0 z g = .tup [g, .int .i64 0] := rfl
theorem imp34 : ImpOk 4613937818241073152 4616189618054758400 3 4 where
  na := by intro s t; have : FloatKind.f64.decode 4613937818241073152 = .number false 6755399441055744 (-51) := by kernel_rfl
           rw [this]; exact fun h => by cases h
  nb := by intro s t; have : FloatKind.f64.decode 4616189618054758400 = .number false 4503599627370496 (-50) := by kernel_rfl
           rw [this]; exact fun h => by cases h
  chk := by kernel_rfl
  ra := by kernel_rfl
  ib := by kernel_rfl
  r0 := by decide
  r1 := by decide
  i0 := by decide
  i1 := by decide
  sub := ⟨4611686018427387904, 4616189618054758400, 4616189618054758400, by kernel_rfl, by kernel_rfl, 4627448617123184640, 4620693217682128896, by kernel_rfl, by kernel_rfl, by kernel_rfl⟩
theorem imp01 : ImpOk 0 4607182418800017408 0 1 where
  na := by intro s t; have : FloatKind.f64.decode 0 = .number false 0 (-1074) := by kernel_rfl
           rw [this]; exact fun h => by cases h
  nb := by intro s t; have : FloatKind.f64.decode 4607182418800017408 = .number false 4503599627370496 (-52) := by kernel_rfl
           rw [this]; exact fun h => by cases h
  chk := by kernel_rfl
  ra := by kernel_rfl
  ib := by kernel_rfl
  r0 := by decide
  r1 := by decide
  i0 := by decide
  i1 := by decide
  sub := ⟨13830554455654793216, 4607182418800017408, 4607182418800017408, by kernel_rfl, by kernel_rfl, 0, 4611686018427387904, by kernel_rfl, by kernel_rfl, by kernel_rfl⟩
end Go.Fly
