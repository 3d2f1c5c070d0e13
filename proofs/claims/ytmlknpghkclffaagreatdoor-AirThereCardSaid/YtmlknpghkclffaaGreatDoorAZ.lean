/- Part of a proof: an evaluator of the model's code by abstract values, and plain laws for it. No conditions. -/
import Derived.Test.YtmlknpghkclffaaGreatDoorAY
import Derived.Test.YtmlknpghkclffaaGreatDoorAL
set_option linter.unusedSimpArgs false
set_option linter.unusedVariables false
/- The reference's layers. -/
namespace Go.Fly
open Go
def toldC : Contract := fun _ args =>
  match args with
  | [.sl n sz get] => ⟨sz = 5 ∧ IsAir n get ∧ n ≤ 1000000, .sl n 5 get, none⟩
  | _ => ⟨False, .top, none⟩
def sameAirC : Contract := fun _ args =>
  match args with
  | [.sl n sz a, .sl n' sz' b] => ⟨sz = 5 ∧ sz' = 5 ∧ n' = n ∧ IsAir n a ∧ ∀ i, i < n → b i = a i, .bool true, none⟩
  | _ => ⟨False, .top, none⟩
attribute [go_sem] toldC sameAirC
end Go.Fly
