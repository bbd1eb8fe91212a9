/- The program. -/
import Derived.Test.YtddclpecmjibkaaDoorOFixAll
import Derived.Test.YtddclpecmjibkaaDoorOT2
import Derived.Test.YtddclpecmjibkaaDoorChecked
set_option maxRecDepth 100000
namespace Go.Oct.Fix
open Go.Proofs
def prog : AProg := ⟨Tr.ofList funcs, []⟩
theorem compP : CompP Tryd.prog prog := compP_of allOk
theorem fol : Tryd.prog.follows .mixedOrders = true := by kernel_rfl
end Go.Oct.Fix
