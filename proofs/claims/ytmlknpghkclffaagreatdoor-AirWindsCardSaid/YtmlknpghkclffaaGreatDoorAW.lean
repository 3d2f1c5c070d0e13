/- Part of a proof: an evaluator of the model's code by abstract values, and plain laws for it. No conditions. -/
import Derived.Test.YtmlknpghkclffaaGreatDoorAU
set_option linter.unusedSimpArgs false
set_option linter.unusedVariables false
/- The law's helpers on the air; where the reference says the same. -/
namespace Go.Fly
open Go
def ownAirC : Contract := fun _ args =>
  match args with
  | [.sl n sz get] => ⟨sz = 5 ∧ IsAir n get ∧ n ≤ 1000 ∧ (∀ i, i < n → inN get i 4 ≤ 1000), .sl n 5 get, none⟩
  | _ => ⟨False, .top, none⟩
def ownListC : Contract := fun _ args =>
  match args with
  | [.sl n sz get] => ⟨sz = 2 ∧ IsIv n get ∧ n ≤ 1000000, .sl n 2 get, none⟩
  | _ => ⟨False, .top, none⟩
attribute [go_sem] ownAirC ownListC
/-! The root by halves. -/
theorem short_use {n : Nat} {get : Nat → List V} (h : shortAirB n get = true) : n ≤ 9 ∧ ∀ i, i < n → inN get i 4 ≤ 9 := by
  unfold shortAirB at h
  simp only [Bool.and_eq_true, decide_eq_true_eq] at h
  exact ⟨by omega, h.1⟩
theorem orE_errA {e : Int} (h : ¬ e = 0) (z g : V) : orE e z g = .tup [z, .int .i64 e] := if_neg h
theorem orE_noA {e : Int} (h : e = 0) (z g : V) : orE e z g = .tup [g, .int .i64 0] := if_pos h
theorem dec_self {α : Type} [DecidableEq α] {a : α} : decide (a = a) = true := decide_eq_true rfl
end Go.Fly
