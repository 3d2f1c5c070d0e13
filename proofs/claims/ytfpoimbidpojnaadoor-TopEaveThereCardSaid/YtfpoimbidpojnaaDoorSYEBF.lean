/- Shares, squares, settings: the reference. -/
import Derived.Test.YtfpoimbidpojnaaDoorSYEBC
import Derived.Test.YtfpoimbidpojnaaDoorAG
set_option linter.unusedSimpArgs false
set_option linter.unusedVariables false
set_option maxRecDepth 100000
set_option maxHeartbeats 1000000
namespace Go.Fly.Tryd
open Go

end Go.Fly.Tryd
