/- Calls whose answers are known, each a run in the kernel (printed by a program). -/
import Derived.Test.YtcbiofokeadddaaOScrewG
import Derived.Test.YtcbiofokeadddaaOT2
import Derived.Test.YtcbiofokeadddaaOScrewW
set_option maxRecDepth 1000000
namespace Go.Oct.Screw
open Go.Proofs
namespace K
theorem k8 : KnownAt prog 1001 34 [(.vsl false [(.int .i64 3),(.int .i64 (-1)),(.int .i64 3),(.int .i64 (-1)),(.int .i64 3)]),(.int .i64 2),(.int .i64 0)] (.tuple [(.int .i64 1),(.int .i64 0)]) := .of get34 rfl (by kernel_rfl)
theorem k9 : KnownAt prog 1001 25 [(.agg [(.vsl false [(.int .i64 1),(.int .i64 2)]),(.int .i64 100)]),(.vsl false [(.agg [(.int .i64 0),(.int .i64 1),(.int .i64 1),(.int .i64 1),(.int .i64 10),(.int .i64 2)]),(.agg [(.int .i64 1),(.int .i64 2),(.int .i64 0),(.int .i64 1),(.int .i64 5),(.int .i64 1)]),(.agg [(.int .i64 0),(.int .i64 1),(.int .i64 0),(.int .i64 0),(.int .i64 20),(.int .i64 5)])]),(.vsl false [(.vsl false [(.int .i64 0),(.int .i64 20)]),(.vsl false [(.int .i64 0),(.int .i64 10)])])] (.tuple [(.bool false),(.int .i64 0)]) := .of get25 rfl (by kernel_rfl)
theorem k10 : KnownAt prog 1001 27 [(.agg [(.vsl false [(.int .i64 1)]),(.int .i64 7)]),(.vsl true [])] (.tuple [(.vsl false [(.vsl false [(.agg [(.int .i64 0),(.int .i64 0)]),(.agg [(.int .i64 (-7)),(.int .i64 7)])])]),(.int .i64 0)]) := .of get27 rfl (by kernel_rfl)
theorem k11 : KnownAt prog 1001 27 [(.agg [(.vsl false [(.int .i64 1),(.int .i64 2)]),(.int .i64 100)]),(.vsl false [(.agg [(.int .i64 1),(.int .i64 1),(.int .i64 1),(.int .i64 1),(.int .i64 3),(.int .i64 2)])])] (.tuple [(.vsl true []),(.int .i64 4)]) := .of get27 rfl (by kernel_rfl)
end K
end Go.Oct.Screw
