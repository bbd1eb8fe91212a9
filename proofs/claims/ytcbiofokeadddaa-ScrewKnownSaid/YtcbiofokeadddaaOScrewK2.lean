/- Calls whose answers are known, each a run in the kernel (printed by a program). -/
import Derived.Test.YtcbiofokeadddaaOScrewG
import Derived.Test.YtcbiofokeadddaaOT2
import Derived.Test.YtcbiofokeadddaaOScrewW
set_option maxRecDepth 1000000
namespace Go.Oct.Screw
open Go.Proofs
namespace K
theorem k2 : KnownAt prog 1001 27 [(.agg [(.vsl false [(.int .i64 1),(.int .i64 2)]),(.int .i64 100)]),(.vsl false [(.agg [(.int .i64 0),(.int .i64 1),(.int .i64 1),(.int .i64 1),(.int .i64 10),(.int .i64 2)]),(.agg [(.int .i64 1),(.int .i64 2),(.int .i64 0),(.int .i64 1),(.int .i64 5),(.int .i64 1)]),(.agg [(.int .i64 0),(.int .i64 1),(.int .i64 0),(.int .i64 0),(.int .i64 20),(.int .i64 5)]),(.agg [(.int .i64 1),(.int .i64 1),(.int .i64 1),(.int .i64 0),(.int .i64 0),(.int .i64 1)])])] (.tuple [(.vsl true []),(.int .i64 4)]) := .of get27 rfl (by kernel_rfl)
theorem k3 : KnownAt prog 1001 30 [(.agg [(.vsl false [(.int .i64 1),(.int .i64 2)]),(.int .i64 100)]),(.vsl false [(.agg [(.int .i64 0),(.int .i64 1),(.int .i64 1),(.int .i64 1),(.int .i64 10),(.int .i64 2)]),(.agg [(.int .i64 1),(.int .i64 2),(.int .i64 0),(.int .i64 1),(.int .i64 5),(.int .i64 1)]),(.agg [(.int .i64 0),(.int .i64 1),(.int .i64 0),(.int .i64 0),(.int .i64 20),(.int .i64 5)])])] (.tuple [(.vsl true []),(.int .i64 4)]) := .of get30 rfl (by kernel_rfl)
theorem k4 : KnownAt prog 1001 34 [(.vsl false [(.int .i64 3),(.int .i64 (-1)),(.int .i64 3),(.int .i64 (-1)),(.int .i64 3)]),(.int .i64 1),(.int .i64 3)] (.tuple [(.int .i64 0),(.int .i64 4)]) := .of get34 rfl (by kernel_rfl)
theorem k5 : KnownAt prog 1001 15 [(.agg [(.vsl false [(.int .i64 20),(.int .i64 30),(.int .i64 40),(.int .i64 50)]),(.int .i64 1),(.int .i64 4)]),(.vsl false [(.int .i64 0),(.int .i64 1)])] (.tuple [(.int .i64 1),(.int .i64 6),(.int .i64 0)]) := .of get15 rfl (by kernel_rfl)
end K
end Go.Oct.Screw
