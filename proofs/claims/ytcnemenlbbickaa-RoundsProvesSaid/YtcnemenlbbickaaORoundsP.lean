import Derived.Test.YtcnemenlbbickaaORoundsAll
import Derived.Test.YtcnemenlbbickaaOT2
import Derived.Test.YtcnemenlbbickaaChecked
set_option maxRecDepth 100000
namespace Go.Oct.Rounds
open Go.Proofs
def prog : AProg := ⟨Tr.ofList funcs, []⟩
theorem compP : CompP Try.prog prog := compP_of allOk
theorem fol : Try.prog.follows .mixedOrders = true := by kernel_rfl
end Go.Oct.Rounds
