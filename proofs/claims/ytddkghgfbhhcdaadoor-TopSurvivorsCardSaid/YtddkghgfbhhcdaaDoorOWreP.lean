/- The program. -/
import Derived.Test.YtddkghgfbhhcdaaDoorOWreAll
import Derived.Test.YtddkghgfbhhcdaaDoorOT2
import Derived.Test.YtddkghgfbhhcdaaDoorChecked
set_option maxRecDepth 100000
namespace Go.Oct.Wre
open Go.Proofs
def prog : AProg := ⟨Tr.ofList funcs, []⟩
theorem compP : CompP Tryd.prog prog := compP_of allOk
theorem fol : Tryd.prog.follows .mixedOrders = true := by kernel_rfl
end Go.Oct.Wre
