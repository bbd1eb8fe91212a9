/- The program. -/
import Derived.Test.YtddkghgfbhhcdaaGreatDoorOLogAll
import Derived.Test.YtddkghgfbhhcdaaGreatDoorOT2
import Derived.Test.YtddkghgfbhhcdaaGreatDoorChecked
set_option maxRecDepth 100000
namespace Go.Oct.Log
open Go.Proofs
def prog : AProg := ⟨Tr.ofList funcs, []⟩
theorem compP : CompP Tryz.prog prog := compP_of allOk
theorem fol : Tryz.prog.follows .mixedOrders = true := by kernel_rfl
end Go.Oct.Log
