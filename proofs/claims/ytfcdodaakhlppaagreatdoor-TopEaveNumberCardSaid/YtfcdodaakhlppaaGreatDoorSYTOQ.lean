/- The office: its questions. -/
import Derived.Test.YtfcdodaakhlppaaGreatDoorSYTOP
import Derived.Test.YtfcdodaakhlppaaGreatDoorAU
set_option linter.unusedSimpArgs false
set_option linter.unusedVariables false
set_option maxRecDepth 100000
set_option maxHeartbeats 1000000
namespace Go.Fly.Tryz
open Go Off

end Go.Fly.Tryz
