/- Each function of the program compiles to the code that is written down for it. -/
import Derived.Test.YtpccnjgeddjfjaaOT2
import Derived.Test.YtpccnjgeddjfjaaOClockLit1
import Derived.Test.YtpccnjgeddjfjaaProg
set_option maxRecDepth 100000
set_option maxHeartbeats 4000000
namespace Go.Oct.Clock
open Go.Proofs
theorem ok135 : ∃ fn c, FuncOK Try.prog 135 f135 fn c := funcOK_of (pu := true) (ks := [[0,1],[4]]) Try.func135 rfl (by kernel_rfl) (by kernel_rfl) (by kernel_rfl) (by kernel_rfl)
theorem ok136 : ∃ fn c, FuncOK Try.prog 136 f136 fn c := funcOK_of (pu := true) (ks := [[0],[2]]) Try.func136 rfl (by kernel_rfl) (by kernel_rfl) (by kernel_rfl) (by kernel_rfl)
end Go.Oct.Clock
