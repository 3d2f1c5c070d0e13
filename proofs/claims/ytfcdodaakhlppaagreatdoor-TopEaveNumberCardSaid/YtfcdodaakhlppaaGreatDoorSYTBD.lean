/- Names, shares, squares. -/
import Derived.Test.YtfcdodaakhlppaaGreatDoorSYTEn
import Derived.Test.YtfcdodaakhlppaaGreatDoorAH
set_option linter.unusedSimpArgs false
set_option linter.unusedVariables false
set_option maxRecDepth 100000
set_option maxHeartbeats 4000000
namespace Go.Fly.Tryz
open Go

end Go.Fly.Tryz
