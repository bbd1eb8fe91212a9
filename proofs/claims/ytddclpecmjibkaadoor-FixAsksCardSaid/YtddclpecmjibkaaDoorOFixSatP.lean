/- Logs, plain: a true track, step by step. -/
import Derived.Test.YtddclpecmjibkaaDoorOFixHlpW
set_option maxRecDepth 100000
set_option maxHeartbeats 2000000
set_option linter.unusedVariables false
set_option linter.unusedSimpArgs false
namespace Go.Oct.Fix
open Go.Oct
end Go.Oct.Fix
