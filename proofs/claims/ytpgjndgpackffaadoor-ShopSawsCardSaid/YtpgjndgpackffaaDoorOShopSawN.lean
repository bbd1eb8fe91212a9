/- What numbers choose of the lengths: not more than the most. -/
import Derived.Test.YtpgjndgpackffaaDoorOShopSawB
set_option maxRecDepth 100000
set_option maxHeartbeats 4000000
set_option linter.unusedVariables false
set_option linter.unusedSimpArgs false
namespace Go.Oct.Shop
open Go.Oct
end Go.Oct.Shop
