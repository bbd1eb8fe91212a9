/- Each function of the program compiles to the code that is written down for it. -/
import Derived.Test.YtpccnjgeddjfjaaOT2
import Derived.Test.YtpccnjgeddjfjaaOClockLit1
import Derived.Test.YtpccnjgeddjfjaaProg
set_option maxRecDepth 100000
set_option maxHeartbeats 4000000
namespace Go.Oct.Clock
open Go.Proofs
theorem ok104 : ∃ fn c, FuncOK Try.prog 104 f104 fn c := funcOK_of (pu := true) (ks := [[0,2],[0,2,4],[0],[0,2],[0,2,8],[0,2],[0,2],[2]]) Try.func104 rfl (by kernel_rfl) (by kernel_rfl) (by kernel_rfl) (by kernel_rfl)
theorem ok105 : ∃ fn c, FuncOK Try.prog 105 f105 fn c := funcOK_of (pu := true) (ks := [[0,2],[0,2,4],[0],[0,2],[0,2,8],[0,2],[0,2],[0,2,14],[0,2],[0,2],[2]]) Try.func105 rfl (by kernel_rfl) (by kernel_rfl) (by kernel_rfl) (by kernel_rfl)
theorem ok106 : ∃ fn c, FuncOK Try.prog 106 f106 fn c := funcOK_of (pu := true) (ks := [[0],[2]]) Try.func106 rfl (by kernel_rfl) (by kernel_rfl) (by kernel_rfl) (by kernel_rfl)
theorem ok107 : ∃ fn c, FuncOK Try.prog 107 f107 fn c := funcOK_of (pu := true) (ks := [[0,1],[4]]) Try.func107 rfl (by kernel_rfl) (by kernel_rfl) (by kernel_rfl) (by kernel_rfl)
theorem ok108 : ∃ fn c, FuncOK Try.prog 108 f108 fn c := funcOK_of (pu := false) (ks := [[0,1,3],[3]]) Try.func108 rfl (by kernel_rfl) (by kernel_rfl) (by kernel_rfl) (by kernel_rfl)
theorem ok109 : ∃ fn c, FuncOK Try.prog 109 f109 fn c := funcOK_of (pu := true) (ks := [[3,4,5],[3,4,5,9],[6],[6]]) Try.func109 rfl (by kernel_rfl) (by kernel_rfl) (by kernel_rfl) (by kernel_rfl)
theorem ok110 : ∃ fn c, FuncOK Try.prog 110 f110 fn c := funcOK_of (pu := false) (ks := [[0,2,3,4,10],[0,2,3,4,10,11],[0,2,3,4,10,11,18],[0,2,3,4,10,11,40],[0,2,3,4,10,11],[0,2,3,4,10,11,58],[0,2,3,4,11],[0,2,3,4,10]]) Try.func110 rfl (by kernel_rfl) (by kernel_rfl) (by kernel_rfl) (by kernel_rfl)
theorem ok111 : ∃ fn c, FuncOK Try.prog 111 f111 fn c := funcOK_of (pu := true) (ks := [[0],[2]]) Try.func111 rfl (by kernel_rfl) (by kernel_rfl) (by kernel_rfl) (by kernel_rfl)
theorem ok112 : ∃ fn c, FuncOK Try.prog 112 f112 fn c := funcOK_of (pu := true) (ks := [[0],[0],[0],[0],[2]]) Try.func112 rfl (by kernel_rfl) (by kernel_rfl) (by kernel_rfl) (by kernel_rfl)
theorem ok113 : ∃ fn c, FuncOK Try.prog 113 f113 fn c := funcOK_of (pu := false) (ks := [[0,1,2,3],[8]]) Try.func113 rfl (by kernel_rfl) (by kernel_rfl) (by kernel_rfl) (by kernel_rfl)
theorem ok114 : ∃ fn c, FuncOK Try.prog 114 f114 fn c := funcOK_of (pu := false) (ks := [[0,1,2,3,4,5],[0,1,2,3,4,5],[0,1,2,4,5],[2],[12]]) Try.func114 rfl (by kernel_rfl) (by kernel_rfl) (by kernel_rfl) (by kernel_rfl)
theorem ok116 : ∃ fn c, FuncOK Try.prog 116 f116 fn c := funcOK_of (pu := false) (ks := [[0,1,2,3,4],[1,2,3,22],[1,2],[10,11],[10,11]]) Try.func116 rfl (by kernel_rfl) (by kernel_rfl) (by kernel_rfl) (by kernel_rfl)
theorem ok132 : ∃ fn c, FuncOK Try.prog 132 f132 fn c := funcOK_of (pu := true) (ks := [[1,2],[1,2,5,6],[1,2,5,16],[4],[2,5,7,8],[4]]) Try.func132 rfl (by kernel_rfl) (by kernel_rfl) (by kernel_rfl) (by kernel_rfl)
theorem ok133 : ∃ fn c, FuncOK Try.prog 133 f133 fn c := funcOK_of (pu := true) (ks := [[0,1],[0,1,6],[0,1,6,7,8],[0,1,6,7,8,15],[0,1,6,7,8,9],[0,1,6,7,8,9,27],[0,1,6,7,8],[0,1,6,7,8],[4,5]]) Try.func133 rfl (by kernel_rfl) (by kernel_rfl) (by kernel_rfl) (by kernel_rfl)
theorem ok134 : ∃ fn c, FuncOK Try.prog 134 f134 fn c := funcOK_of (pu := true) (ks := [[0,1],[0,1,5],[5,12],[5],[4]]) Try.func134 rfl (by kernel_rfl) (by kernel_rfl) (by kernel_rfl) (by kernel_rfl)
theorem ok135 : ∃ fn c, FuncOK Try.prog 135 f135 fn c := funcOK_of (pu := true) (ks := [[0,1],[4]]) Try.func135 rfl (by kernel_rfl) (by kernel_rfl) (by kernel_rfl) (by kernel_rfl)
theorem ok136 : ∃ fn c, FuncOK Try.prog 136 f136 fn c := funcOK_of (pu := true) (ks := [[0],[2]]) Try.func136 rfl (by kernel_rfl) (by kernel_rfl) (by kernel_rfl) (by kernel_rfl)
end Go.Oct.Clock
