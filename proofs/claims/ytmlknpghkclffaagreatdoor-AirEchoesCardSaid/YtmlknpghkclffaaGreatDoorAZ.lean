/- Part of a proof: an evaluator of the model's code by abstract values, and plain laws for it. No conditions. -/
import Derived.Test.YtmlknpghkclffaaGreatDoorAY
import Derived.Test.YtmlknpghkclffaaGreatDoorAL
set_option linter.unusedSimpArgs false
set_option linter.unusedVariables false
/- The reference's layers. -/
namespace Go.Fly
open Go
end Go.Fly
