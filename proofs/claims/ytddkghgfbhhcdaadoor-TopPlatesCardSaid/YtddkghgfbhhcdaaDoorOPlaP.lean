/- The program. -/
import Derived.Test.YtddkghgfbhhcdaaDoorOPlaAll
import Derived.Test.YtddkghgfbhhcdaaDoorOT2
import Derived.Test.YtddkghgfbhhcdaaDoorChecked
set_option maxRecDepth 100000
namespace Go.Oct.Pla
open Go.Proofs
def prog : AProg := ⟨Tr.ofList funcs, []⟩
theorem compP : CompP Tryd.prog prog := compP_of allOk
theorem fol : Tryd.prog.follows .mixedOrders = true := by kernel_rfl
end Go.Oct.Pla
