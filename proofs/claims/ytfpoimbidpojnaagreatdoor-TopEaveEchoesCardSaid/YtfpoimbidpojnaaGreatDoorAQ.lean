/- Part of a proof: an evaluator of the model's code by abstract values, and plain laws for it. No conditions. -/
import Derived.Test.YtfpoimbidpojnaaGreatDoorAP
import Derived.Test.YtfpoimbidpojnaaGreatDoorAN
set_option linter.unusedSimpArgs false
set_option linter.unusedVariables false
/- Copies of airs by a function; how fast layers are. -/
namespace Go.Fly
open Go
end Go.Fly
