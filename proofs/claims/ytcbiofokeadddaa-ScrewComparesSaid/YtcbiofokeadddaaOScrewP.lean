import Derived.Test.YtcbiofokeadddaaOScrewAll
import Derived.Test.YtcbiofokeadddaaOT2
import Derived.Test.YtcbiofokeadddaaChecked
set_option maxRecDepth 100000
namespace Go.Oct.Screw
open Go.Proofs
def prog : AProg := ⟨Tr.ofList funcs, []⟩
theorem compP : CompP Try.prog prog := compP_of allOk
theorem fol : Try.prog.follows .mixedOrders = true := by kernel_rfl
end Go.Oct.Screw
