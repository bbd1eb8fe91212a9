/- Each function of the program compiles to the code that is written down for it. -/
import Derived.Test.YtddclpecmjibkaaDoorOT2
import Derived.Test.YtddclpecmjibkaaDoorOFixLit1
import Derived.Test.YtddclpecmjibkaaDoorOFixLit00
import Derived.Test.YtddclpecmjibkaaDoorProg
set_option maxRecDepth 100000
set_option maxHeartbeats 4000000
namespace Go.Oct.Fix
open Go.Proofs
theorem ok118 : ∃ fn c, FuncOK Tryd.prog 118 f118 fn c := funcOK_of (pu := false) (ks := [[0,2,3,4,10],[0,2,3,4,10,11],[0,2,3,4,10,11,18],[0,2,3,4,10,11,40],[0,2,3,4,10,11],[0,2,3,4,10,11,58],[0,2,3,4,11],[0,2,3,4,10]]) Tryd.func118 rfl (by kernel_rfl) (by kernel_rfl) (by kernel_rfl) (by kernel_rfl)
theorem ok119 : ∃ fn c, FuncOK Tryd.prog 119 f119 fn c := funcOK_of (pu := true) (ks := [[0],[2]]) Tryd.func119 rfl (by kernel_rfl) (by kernel_rfl) (by kernel_rfl) (by kernel_rfl)
theorem ok120 : ∃ fn c, FuncOK Tryd.prog 120 f120 fn c := funcOK_of (pu := false) (ks := [[0],[0],[0],[0],[2]]) Tryd.func120 rfl (by kernel_rfl) (by kernel_rfl) (by kernel_rfl) (by kernel_rfl)
theorem ok121 : ∃ fn c, FuncOK Tryd.prog 121 f121 fn c := funcOK_of (pu := false) (ks := [[0,1,2,3],[8]]) Tryd.func121 rfl (by kernel_rfl) (by kernel_rfl) (by kernel_rfl) (by kernel_rfl)
theorem ok122 : ∃ fn c, FuncOK Tryd.prog 122 f122 fn c := funcOK_of (pu := false) (ks := [[0,1,2,3,4,5],[0,1,2,3,4,5],[0,1,2,4,5],[2],[12]]) Tryd.func122 rfl (by kernel_rfl) (by kernel_rfl) (by kernel_rfl) (by kernel_rfl)
theorem ok123 : ∃ fn c, FuncOK Tryd.prog 123 f123 fn c := funcOK_of (pu := false) (ks := [[0,1,2,3,4],[1,2,3,22],[1,2],[10,11],[10,11]]) Tryd.func123 rfl (by kernel_rfl) (by kernel_rfl) (by kernel_rfl) (by kernel_rfl)
theorem ok139 : ∃ fn c, FuncOK Tryd.prog 139 f139 fn c := funcOK_of (pu := true) (ks := [[2,3],[2,3,5],[3,5,10,11,12],[3,5,10,11,12,13],[3,5,7,10,11,12],[3,5,10,11,12,19],[3,5,10,11,12],[3,5,10,11,12],[4]]) Tryd.func139 rfl (by kernel_rfl) (by kernel_rfl) (by kernel_rfl) (by kernel_rfl)
theorem ok141 : ∃ fn c, FuncOK Tryd.prog 141 f141 fn c := funcOK_of (pu := true) (ks := [[2,3],[4]]) Tryd.func141 rfl (by kernel_rfl) (by kernel_rfl) (by kernel_rfl) (by kernel_rfl)
end Go.Oct.Fix
