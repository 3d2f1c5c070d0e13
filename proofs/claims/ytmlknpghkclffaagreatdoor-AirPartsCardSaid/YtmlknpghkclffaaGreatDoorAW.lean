/- Part of a proof: an evaluator of the model's code by abstract values, and plain laws for it. No conditions. -/
import Derived.Test.YtmlknpghkclffaaGreatDoorAU
set_option linter.unusedSimpArgs false
set_option linter.unusedVariables false
/- The law's helpers on the air; where the reference says the same. -/
namespace Go.Fly
open Go
def ownAirC : Contract := fun _ args =>
  match args with
  | [.sl n sz get] => ⟨sz = 5 ∧ IsAir n get ∧ n ≤ 1000 ∧ (∀ i, i < n → inN get i 4 ≤ 1000), .sl n 5 get, none⟩
  | _ => ⟨False, .top, none⟩
def ownListC : Contract := fun _ args =>
  match args with
  | [.sl n sz get] => ⟨sz = 2 ∧ IsIv n get ∧ n ≤ 1000000, .sl n 2 get, none⟩
  | _ => ⟨False, .top, none⟩
def toPathRC : Contract := fun _ args =>
  match args with
  | [.agg [.int .i64 a, .int .i64 b, .int .i64 c, .int .i64 d, .int .i64 e, .int .i64 f]] => ⟨True, .agg [.int .i64 a, .int .i64 b, .int .i64 c, .int .i64 d, .int .i64 e, .int .i64 f], none⟩
  | _ => ⟨False, .top, none⟩
attribute [go_sem] ownAirC ownListC toPathRC
theorem sameG_true {n : Nat} {a b : Nat → List V} (h : ∀ i, i < n → cell a i 0 = cell b i 0 ∧ cell a i 1 = cell b i 1) : sameG n a n b = true := by
  unfold sameG
  rw [Bool.and_eq_true]
  exact ⟨decide_eq_true rfl, decide_eq_true h⟩
/-! The root by halves. -/
theorem short_use {n : Nat} {get : Nat → List V} (h : shortAirB n get = true) : n ≤ 9 ∧ ∀ i, i < n → inN get i 4 ≤ 9 := by
  unfold shortAirB at h
  simp only [Bool.and_eq_true, decide_eq_true_eq] at h
  exact ⟨by omega, h.1⟩
theorem orE_noA {e : Int} (h : e = 0) (z g : V) : orE e z g = .tup [g, .int .i64 0] := if_pos h
theorem dec_self {α : Type} [DecidableEq α] {a : α} : decide (a = a) = true := decide_eq_true rfl
end Go.Fly
