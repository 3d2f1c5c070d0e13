/- Part of a proof: an evaluator of the model's code by abstract values, and plain laws for it. No conditions. -/
import Derived.Test.YtmlknpghkclffaaGreatDoorAK
set_option linter.unusedSimpArgs false
set_option linter.unusedVariables false
/- Steps of a path of two pieces. -/
namespace Go.Fly
open Go

def allG (z0 z1 y0 y1 : Int) : Int := z1 - z0 + (y1 - y0)
def partG (n : Nat) (get : Nat → List V) (z0 z1 y0 y1 flat : Int) (i : Nat) : Int :=
  if allG z0 z1 y0 y1 = 0 then (if (i : Int) = atE n get flat then 1 else 0) else overE (botE get i) (topE n get i) z0 z1 + overE (botE get i) (topE n get i) y0 y1
def byG (z0 z1 y0 y1 : Int) : Int := if allG z0 z1 y0 y1 = 0 then 1 else allG z0 z1 y0 y1
def stLo (n : Nat) (get : Nat → List V) (sq z0 z1 y0 y1 flat : Int) (i : Nat) : Int := rootE (sq * partG n get z0 z1 y0 y1 flat i * partG n get z0 z1 y0 y1 flat i) (byG z0 z1 y0 y1 * byG z0 z1 y0 y1 * 100 * 100)
def stHi (n : Nat) (get : Nat → List V) (sq z0 z1 y0 y1 flat : Int) (i : Nat) : Int := rootUp (sq * partG n get z0 z1 y0 y1 flat i * partG n get z0 z1 y0 y1 flat i) (byG z0 z1 y0 y1 * byG z0 z1 y0 y1 * 100 * 100)
def steps2C : Contract := fun _ args =>
  match args with
  | [.agg [.int .i64 sq, .int .i64 z0, .int .i64 z1, .int .i64 y0, .int .i64 y1, .int .i64 flat], .sl n sz get] =>
    ⟨sz = 5 ∧ IsAir n get ∧ AirOk n get ∧ (0 ≤ sq ∧ sq ≤ 1200000000) ∧ 0 ≤ z0 ∧ z0 ≤ z1 ∧ z1 ≤ 10000 ∧ 0 ≤ y0 ∧ y0 ≤ y1 ∧ y1 ≤ 10000 ∧ 0 ≤ flat ∧ flat ≤ 10000,
      .sl n 2 (fun i => [.int .i64 (stLo n get sq z0 z1 y0 y1 flat i), .int .i64 (stHi n get sq z0 z1 y0 y1 flat i)]), none⟩
  | _ => ⟨False, .top, none⟩
attribute [go_sem] steps2C
/-- What is reckoned stays small. -/
theorem stepG_bd {n : Nat} {get : Nat → List V} {sq z0 z1 y0 y1 flat : Int} (hsq : 0 ≤ sq ∧ sq ≤ 1200000000) (hz : 0 ≤ z0 ∧ z0 ≤ z1 ∧ z1 ≤ 10000) (hy : 0 ≤ y0 ∧ y0 ≤ y1 ∧ y1 ≤ 10000) {p : Int} (hp : 0 ≤ p ∧ p ≤ byG z0 z1 y0 y1) :
    (0 ≤ sq * p ∧ sq * p ≤ 24000000000000) ∧ (0 ≤ sq * p * p ∧ sq * p * p ≤ 480000000000000000) ∧ (1 ≤ byG z0 z1 y0 y1 ∧ byG z0 z1 y0 y1 ≤ 20000) ∧ 1 ≤ byG z0 z1 y0 y1 * byG z0 z1 y0 y1 ∧ byG z0 z1 y0 y1 * byG z0 z1 y0 y1 ≤ 400000000 := by
  have hb : 1 ≤ byG z0 z1 y0 y1 ∧ byG z0 z1 y0 y1 ≤ 20000 := by unfold byG allG; split <;> omega
  generalize byG z0 z1 y0 y1 = b at *
  have h1 := mul_le_of hsq.1 hsq.2 hp.1 (show p ≤ 20000 by omega)
  have h2 := mul_le_of h1.1 h1.2 hp.1 (show p ≤ 20000 by omega)
  have h3 := mul_le_of (a := b) (b := b) (A := 20000) (B := 20000) (by omega) (by omega) (by omega) (by omega)
  have h4 : 1 * 1 ≤ b * b := Int.mul_le_mul (by omega) (by omega) (by omega) (by omega)
  omega
theorem partG_bd {n : Nat} {get : Nat → List V} {z0 z1 y0 y1 flat : Int} {i : Nat} (hz : z0 ≤ z1) (hy : y0 ≤ y1) : 0 ≤ partG n get z0 z1 y0 y1 flat i ∧ partG n get z0 z1 y0 y1 flat i ≤ byG z0 z1 y0 y1 := by
  unfold partG byG
  by_cases h : allG z0 z1 y0 y1 = 0
  · rw [if_pos h, if_pos h]
    split <;> omega
  · rw [if_neg h, if_neg h]
    have a := over_le (bot := botE get i) (top := topE n get i) hz
    have b := over_le (bot := botE get i) (top := topE n get i) hy
    unfold allG
    omega
/-- A path of one piece. -/
theorem stLo_one {n : Nat} {get : Nat → List V} {sq z0 z1 flat : Int} {i : Nat} (hb : 0 ≤ botE get i) (ht : 0 ≤ topE n get i) : stLo n get sq z0 z1 0 0 flat i = stepLo n get sq z0 z1 flat i := by
  have e : allG z0 z1 0 0 = z1 - z0 := by unfold allG; omega
  have h0 := over_zero hb ht
  unfold stLo stepLo partG partE byG byE
  rw [e, h0, Int.add_zero]
theorem stHi_one {n : Nat} {get : Nat → List V} {sq z0 z1 flat : Int} {i : Nat} (hb : 0 ≤ botE get i) (ht : 0 ≤ topE n get i) : stHi n get sq z0 z1 0 0 flat i = stepHi n get sq z0 z1 flat i := by
  have e : allG z0 z1 0 0 = z1 - z0 := by unfold allG; omega
  have h0 := over_zero hb ht
  unfold stHi stepHi partG partE byG byE
  rw [e, h0, Int.add_zero]
end Go.Fly
