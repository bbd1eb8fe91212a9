/- Calls whose answers are known, each a run in the kernel (printed by a program). -/
import Derived.Test.YtcbiofokeadddaaOScrewG
import Derived.Test.YtcbiofokeadddaaOT2
import Derived.Test.YtcbiofokeadddaaOScrewW
set_option maxRecDepth 1000000
namespace Go.Oct.Screw
open Go.Proofs
namespace K
theorem k12 : KnownAt prog 1001 24 [] (.bool true) := .more W.known_ok get24 rfl (by kernel_rfl)
end K
end Go.Oct.Screw
