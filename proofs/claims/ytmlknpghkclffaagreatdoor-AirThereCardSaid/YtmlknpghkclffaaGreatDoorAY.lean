/- Part of a proof: an evaluator of the model's code by abstract values, and plain laws for it. No conditions. -/
import Derived.Test.YtmlknpghkclffaaGreatDoorAW
set_option linter.unusedSimpArgs false
set_option linter.unusedVariables false
/- The reference's winds and rays. -/
namespace Go.Fly
open Go
end Go.Fly
