/- The program. -/
import Derived.Test.YtpgjndgpackffaaGreatDoorOPlansAll
import Derived.Test.YtpgjndgpackffaaGreatDoorOT2
import Derived.Test.YtpgjndgpackffaaGreatDoorChecked
set_option maxRecDepth 100000
namespace Go.Oct.Plans
open Go.Proofs
def prog : AProg := ⟨Tr.ofList funcs, []⟩
theorem compP : CompP Tryz.prog prog := compP_of allOk
theorem fol : Tryz.prog.follows .mixedOrders = true := by kernel_rfl
end Go.Oct.Plans
