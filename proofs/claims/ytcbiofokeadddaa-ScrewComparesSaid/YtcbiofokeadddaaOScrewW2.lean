/- Calls whose answers are known, each a run in the kernel (printed by a program). -/
import Derived.Test.YtcbiofokeadddaaOScrewG
import Derived.Test.YtcbiofokeadddaaOT2
set_option maxRecDepth 1000000
namespace Go.Oct.Screw
open Go.Proofs
namespace W
theorem k3 : KnownAt prog 1000 27 [(.agg [(.vsl false [(.int .i64 1),(.int .i64 2)]),(.int .i64 100)]),(.vsl false [(.agg [(.int .i64 0),(.int .i64 1),(.int .i64 1),(.int .i64 1),(.int .i64 10),(.int .i64 2)]),(.agg [(.int .i64 1),(.int .i64 2),(.int .i64 0),(.int .i64 1),(.int .i64 5),(.int .i64 1)]),(.agg [(.int .i64 0),(.int .i64 1),(.int .i64 0),(.int .i64 0),(.int .i64 20),(.int .i64 5)])])] (.tuple [(.vsl false [(.vsl false [(.agg [(.int .i64 0),(.int .i64 0)]),(.agg [(.int .i64 15),(.int .i64 25)])]),(.vsl false [(.agg [(.int .i64 0),(.int .i64 0)]),(.agg [(.int .i64 3),(.int .i64 17)]),(.agg [(.int .i64 19),(.int .i64 31)])])]),(.int .i64 0)]) := .of get27 rfl (by kernel_rfl)
theorem k4 : KnownAt prog 1000 25 [(.agg [(.vsl false [(.int .i64 1),(.int .i64 2)]),(.int .i64 100)]),(.vsl false [(.agg [(.int .i64 0),(.int .i64 1),(.int .i64 1),(.int .i64 1),(.int .i64 10),(.int .i64 2)]),(.agg [(.int .i64 1),(.int .i64 2),(.int .i64 0),(.int .i64 1),(.int .i64 5),(.int .i64 1)]),(.agg [(.int .i64 0),(.int .i64 1),(.int .i64 0),(.int .i64 0),(.int .i64 20),(.int .i64 5)])]),(.vsl false [(.vsl false [(.int .i64 0),(.int .i64 20)]),(.vsl false [(.int .i64 0),(.int .i64 10),(.int .i64 25)])])] (.tuple [(.bool true),(.int .i64 0)]) := .of get25 rfl (by kernel_rfl)
end W
end Go.Oct.Screw
