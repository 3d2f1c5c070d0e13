/- Part of a proof: an evaluator of the model's code by abstract values, and plain laws for it. No conditions. -/
import Derived.Test.YtfpoimbidpojnaaGreatDoorAT
set_option linter.unusedSimpArgs false
set_option linter.unusedVariables false
/- The law on walls there and back: its plain part. -/
namespace Go.Fly
open Go
end Go.Fly
