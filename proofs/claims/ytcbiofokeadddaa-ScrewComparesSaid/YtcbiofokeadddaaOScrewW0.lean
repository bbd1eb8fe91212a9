/- Calls whose answers are known, each a run in the kernel (printed by a program). -/
import Derived.Test.YtcbiofokeadddaaOScrewG
import Derived.Test.YtcbiofokeadddaaOT2
set_option maxRecDepth 1000000
namespace Go.Oct.Screw
open Go.Proofs
namespace W
theorem k0 : KnownAt prog 1000 15 [(.agg [(.vsl false [(.int .i64 20),(.int .i64 30),(.int .i64 40),(.int .i64 50)]),(.int .i64 1),(.int .i64 4)]),(.vsl false [(.int .i64 0),(.int .i64 1),(.int .i64 2),(.int .i64 3)])] (.tuple [(.int .i64 2),(.int .i64 15),(.int .i64 0)]) := .of get15 rfl (by kernel_rfl)
theorem k1 : KnownAt prog 1000 19 [(.agg [(.vsl false [(.int .i64 20),(.int .i64 30),(.int .i64 40),(.int .i64 50)]),(.int .i64 1),(.int .i64 4)]),(.int .i64 1),(.int .i64 6)] (.tuple [(.vsl false [(.int .i64 0),(.int .i64 1)]),(.int .i64 0)]) := .of get19 rfl (by kernel_rfl)
end W
end Go.Oct.Screw
