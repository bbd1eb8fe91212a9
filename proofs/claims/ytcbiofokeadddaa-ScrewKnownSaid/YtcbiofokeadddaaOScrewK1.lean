/- Calls whose answers are known, each a run in the kernel (printed by a program). -/
import Derived.Test.YtcbiofokeadddaaOScrewG
import Derived.Test.YtcbiofokeadddaaOT2
import Derived.Test.YtcbiofokeadddaaOScrewW
set_option maxRecDepth 1000000
namespace Go.Oct.Screw
open Go.Proofs
namespace K
theorem k1 : KnownAt prog 1001 19 [(.agg [(.vsl false [(.int .i64 20),(.int .i64 30),(.int .i64 40),(.int .i64 50)]),(.int .i64 1),(.int .i64 4)]),(.int .i64 1),(.int .i64 15)] (.tuple [(.vsl true []),(.int .i64 4)]) := .of get19 rfl (by kernel_rfl)
end K
end Go.Oct.Screw
