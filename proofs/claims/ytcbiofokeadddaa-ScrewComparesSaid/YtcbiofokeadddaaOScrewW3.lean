/- Calls whose answers are known, each a run in the kernel (printed by a program). -/
import Derived.Test.YtcbiofokeadddaaOScrewG
import Derived.Test.YtcbiofokeadddaaOT2
set_option maxRecDepth 1000000
namespace Go.Oct.Screw
open Go.Proofs
namespace W
theorem k5 : KnownAt prog 1000 30 [(.agg [(.vsl false [(.int .i64 1),(.int .i64 2)]),(.int .i64 100)]),(.vsl false [(.agg [(.int .i64 0),(.int .i64 1),(.int .i64 1),(.int .i64 1),(.int .i64 10),(.int .i64 2)]),(.agg [(.int .i64 1),(.int .i64 2),(.int .i64 0),(.int .i64 1),(.int .i64 5),(.int .i64 1)]),(.agg [(.int .i64 0),(.int .i64 1),(.int .i64 0),(.int .i64 0),(.int .i64 20),(.int .i64 5)]),(.agg [(.int .i64 1),(.int .i64 1),(.int .i64 1),(.int .i64 0),(.int .i64 0),(.int .i64 1)])])] (.tuple [(.vsl false [(.int .i64 0),(.int .i64 2),(.int .i64 3)]),(.int .i64 0)]) := .of get30 rfl (by kernel_rfl)
theorem k6 : KnownAt prog 1000 34 [(.vsl false [(.int .i64 3),(.int .i64 (-1)),(.int .i64 3),(.int .i64 (-1)),(.int .i64 3)]),(.int .i64 3),(.int .i64 1)] (.tuple [(.int .i64 2),(.int .i64 0)]) := .of get34 rfl (by kernel_rfl)
theorem k7 : KnownAt prog 1000 36 [(.vsl false [(.agg [(.int .i64 0),(.int .i64 1)]),(.agg [(.int .i64 5),(.int .i64 6)]),(.agg [(.int .i64 1),(.int .i64 2)]),(.agg [(.int .i64 6),(.int .i64 7)])])] (.tuple [(.vsl false [(.int .i64 2),(.int .i64 4)]),(.int .i64 0)]) := .of get36 rfl (by kernel_rfl)
end W
end Go.Oct.Screw
