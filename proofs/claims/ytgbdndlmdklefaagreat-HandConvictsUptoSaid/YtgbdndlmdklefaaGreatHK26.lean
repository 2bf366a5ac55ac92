/- Slices that are written into no more at a call. -/
import Derived.Test.YtgbdndlmdklefaaGreatHK16
set_option linter.unusedSimpArgs false
set_option linter.unusedVariables false
namespace Go.Mu
open Go Go.Conc
end Go.Mu
