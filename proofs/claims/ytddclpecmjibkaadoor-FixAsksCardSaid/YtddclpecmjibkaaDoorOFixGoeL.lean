/- FixGoes: it answers true at all arguments. -/
import Derived.Test.YtddclpecmjibkaaDoorOFixRefG
set_option maxRecDepth 100000
set_option maxHeartbeats 8000000
set_option linter.unusedVariables false
set_option linter.unusedSimpArgs false
namespace Go.Oct.Fix
open Go.Oct
end Go.Oct.Fix
