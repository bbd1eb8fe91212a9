/- Each function of the program compiles to the code that is written down for it. -/
import Derived.Test.YtpccnjgeddjfjaaOT2
import Derived.Test.YtpccnjgeddjfjaaOClockLit1
import Derived.Test.YtpccnjgeddjfjaaProg
set_option maxRecDepth 100000
set_option maxHeartbeats 4000000
namespace Go.Oct.Clock
open Go.Proofs
theorem ok132 : ∃ fn c, FuncOK Try.prog 132 f132 fn c := funcOK_of (pu := true) (ks := [[1,2],[1,2,5,6],[1,2,5,16],[4],[2,5,7,8],[4]]) Try.func132 rfl (by kernel_rfl) (by kernel_rfl) (by kernel_rfl) (by kernel_rfl)
theorem ok133 : ∃ fn c, FuncOK Try.prog 133 f133 fn c := funcOK_of (pu := true) (ks := [[0,1],[0,1,6],[0,1,6,7,8],[0,1,6,7,8,15],[0,1,6,7,8,9],[0,1,6,7,8,9,27],[0,1,6,7,8],[0,1,6,7,8],[4,5]]) Try.func133 rfl (by kernel_rfl) (by kernel_rfl) (by kernel_rfl) (by kernel_rfl)
theorem ok134 : ∃ fn c, FuncOK Try.prog 134 f134 fn c := funcOK_of (pu := true) (ks := [[0,1],[0,1,5],[5,12],[5],[4]]) Try.func134 rfl (by kernel_rfl) (by kernel_rfl) (by kernel_rfl) (by kernel_rfl)
theorem ok135 : ∃ fn c, FuncOK Try.prog 135 f135 fn c := funcOK_of (pu := true) (ks := [[0,1],[4]]) Try.func135 rfl (by kernel_rfl) (by kernel_rfl) (by kernel_rfl) (by kernel_rfl)
theorem ok136 : ∃ fn c, FuncOK Try.prog 136 f136 fn c := funcOK_of (pu := true) (ks := [[0],[2]]) Try.func136 rfl (by kernel_rfl) (by kernel_rfl) (by kernel_rfl) (by kernel_rfl)
end Go.Oct.Clock
