/- The program. -/
import Derived.Test.YtpgjndgpackffaaDoorOShopAll
import Derived.Test.YtpgjndgpackffaaDoorOT2
import Derived.Test.YtpgjndgpackffaaDoorChecked
set_option maxRecDepth 100000
namespace Go.Oct.Shop
open Go.Proofs
def prog : AProg := ⟨Tr.ofList funcs, []⟩
theorem compP : CompP Tryd.prog prog := compP_of allOk
theorem fol : Tryd.prog.follows .mixedOrders = true := by kernel_rfl
end Go.Oct.Shop
