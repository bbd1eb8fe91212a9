/- The program. -/
import Derived.Test.YtddkghgfbhhcdaaGreatDoorOStkAll
import Derived.Test.YtddkghgfbhhcdaaGreatDoorOT2
import Derived.Test.YtddkghgfbhhcdaaGreatDoorChecked
set_option maxRecDepth 100000
namespace Go.Oct.Stk
open Go.Proofs
def prog : AProg := ⟨Tr.ofList funcs, []⟩
theorem compP : CompP Tryz.prog prog := compP_of allOk
theorem fol : Tryz.prog.follows .mixedOrders = true := by kernel_rfl
end Go.Oct.Stk
