/- Airs, paths, energies: their errors, in the program and in the reference. -/
import Derived.Test.YtfcdodaakhlppaaGreatDoorSYTBB
set_option linter.unusedSimpArgs false
set_option linter.unusedVariables false
set_option maxRecDepth 100000
namespace Go.Fly.Tryz
open Go

end Go.Fly.Tryz
