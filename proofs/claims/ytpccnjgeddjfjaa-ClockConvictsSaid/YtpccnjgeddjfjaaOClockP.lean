/- The program. -/
import Derived.Test.YtpccnjgeddjfjaaOClockAll
import Derived.Test.YtpccnjgeddjfjaaOT2
import Derived.Test.YtpccnjgeddjfjaaChecked
set_option maxRecDepth 100000
namespace Go.Oct.Clock
open Go.Proofs
def meths : List (Nat × String × Nat) := [(98,"octant/clock.rate",132)]
def prog : AProg := ⟨Tr.ofList funcs, meths⟩
theorem compP : CompP Try.prog prog := compP_ofM allOk meths (by kernel_rfl)
theorem fol : Try.prog.follows .mixedOrders = true := by kernel_rfl
end Go.Oct.Clock
