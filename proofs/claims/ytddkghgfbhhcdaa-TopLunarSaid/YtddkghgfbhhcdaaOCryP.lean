/- The program. -/
import Derived.Test.YtddkghgfbhhcdaaOCryAll
import Derived.Test.YtddkghgfbhhcdaaOT2
import Derived.Test.YtddkghgfbhhcdaaChecked
set_option maxRecDepth 100000
namespace Go.Oct.Cry
open Go.Proofs
def meths : List (Nat × String × Nat) := [(145,"octant/clock.rate",172),(187,"octant/sextant.span",177),(189,"octant/sextant.span",178)]
def prog : AProg := ⟨Tr.ofList funcs, meths⟩
theorem compP : CompP Try.prog prog := compP_ofM allOk meths (by kernel_rfl)
theorem fol : Try.prog.follows .mixedOrders = true := by kernel_rfl
end Go.Oct.Cry
