/- The reference's winds and rays, and the law on them. -/
import Derived.Test.YtmlknpghkclffaaGreatDoorSYAHA
import Derived.Test.YtmlknpghkclffaaGreatDoorAY
set_option linter.unusedSimpArgs false
set_option linter.unusedVariables false
set_option maxRecDepth 100000
set_option maxHeartbeats 8000000
namespace Go.Fly.Tryz
open Go

end Go.Fly.Tryz
