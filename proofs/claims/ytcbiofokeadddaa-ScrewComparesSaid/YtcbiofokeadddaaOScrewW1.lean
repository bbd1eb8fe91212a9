/- Calls whose answers are known, each a run in the kernel (printed by a program). -/
import Derived.Test.YtcbiofokeadddaaOScrewG
import Derived.Test.YtcbiofokeadddaaOT2
set_option maxRecDepth 1000000
namespace Go.Oct.Screw
open Go.Proofs
namespace W
theorem k2 : KnownAt prog 1000 22 [(.agg [(.vsl false [(.int .i64 20),(.int .i64 30),(.int .i64 40),(.int .i64 50)]),(.int .i64 1),(.int .i64 4)]),(.int .i64 1),(.int .i64 15)] (.tuple [(.vsl false [(.int .i64 0),(.int .i64 2),(.int .i64 1),(.int .i64 3)]),(.int .i64 0)]) := .of get22 rfl (by kernel_rfl)
end W
end Go.Oct.Screw
