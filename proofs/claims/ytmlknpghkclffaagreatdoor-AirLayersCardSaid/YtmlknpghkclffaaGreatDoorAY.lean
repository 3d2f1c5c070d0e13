/- Part of a proof: an evaluator of the model's code by abstract values, and plain laws for it. No conditions. -/
import Derived.Test.YtmlknpghkclffaaGreatDoorAW
set_option linter.unusedSimpArgs false
set_option linter.unusedVariables false
/- The reference's winds and rays. -/
namespace Go.Fly
open Go
theorem bot_lt {n : Nat} {get : Nat → List V} (hok : AirOk n get) {i : Nat} : ∀ {j : Nat}, i < j → j ≤ n → botE get i < botE get j
  | 0, h, _ => absurd h (Nat.not_lt_zero _)
  | j + 1, h, hj => by
    have ht := hok.th j (by omega)
    have e : botE get (j + 1) = botE get j + cell get j 0 := rfl
    by_cases q : i = j
    · subst q; omega
    · have := bot_lt hok (i := i) (j := j) (by omega) (by omega)
      omega
end Go.Fly
