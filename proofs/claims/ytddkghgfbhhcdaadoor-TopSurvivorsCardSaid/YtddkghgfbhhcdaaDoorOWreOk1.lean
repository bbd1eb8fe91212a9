/- Each function of the program compiles to the code that is written down for it. -/
import Derived.Test.YtddkghgfbhhcdaaDoorOT2
import Derived.Test.YtddkghgfbhhcdaaDoorOWreLit1
import Derived.Test.YtddkghgfbhhcdaaDoorOWreLit00
import Derived.Test.YtddkghgfbhhcdaaDoorProg
set_option maxRecDepth 100000
set_option maxHeartbeats 4000000
namespace Go.Oct.Wre
open Go.Proofs
theorem ok130 : ∃ fn c, FuncOK Tryd.prog 130 f130 fn c := funcOK_of (pu := true) (ks := [[0,2],[0,2,4],[0],[0,2],[0,2,8],[0,2],[0,2],[0,2,14],[0,2],[0,2],[2]]) Tryd.func130 rfl (by kernel_rfl) (by kernel_rfl) (by kernel_rfl) (by kernel_rfl)
theorem ok131 : ∃ fn c, FuncOK Tryd.prog 131 f131 fn c := funcOK_of (pu := true) (ks := [[0],[2]]) Tryd.func131 rfl (by kernel_rfl) (by kernel_rfl) (by kernel_rfl) (by kernel_rfl)
theorem ok132 : ∃ fn c, FuncOK Tryd.prog 132 f132 fn c := funcOK_of (pu := true) (ks := [[0,1],[4]]) Tryd.func132 rfl (by kernel_rfl) (by kernel_rfl) (by kernel_rfl) (by kernel_rfl)
theorem ok133 : ∃ fn c, FuncOK Tryd.prog 133 f133 fn c := funcOK_of (pu := true) (ks := [[0,1],[0,1,7,8],[0,1,7,8,9],[0,1,5,7,8],[0,1,5,7,8,16],[4],[0,1,7,8],[4]]) Tryd.func133 rfl (by kernel_rfl) (by kernel_rfl) (by kernel_rfl) (by kernel_rfl)
theorem ok134 : ∃ fn c, FuncOK Tryd.prog 134 f134 fn c := funcOK_of (pu := true) (ks := [[0,1],[4]]) Tryd.func134 rfl (by kernel_rfl) (by kernel_rfl) (by kernel_rfl) (by kernel_rfl)
theorem ok135 : ∃ fn c, FuncOK Tryd.prog 135 f135 fn c := funcOK_of (pu := true) (ks := [[0,1],[4]]) Tryd.func135 rfl (by kernel_rfl) (by kernel_rfl) (by kernel_rfl) (by kernel_rfl)
theorem ok136 : ∃ fn c, FuncOK Tryd.prog 136 f136 fn c := funcOK_of (pu := true) (ks := [[1],[2]]) Tryd.func136 rfl (by kernel_rfl) (by kernel_rfl) (by kernel_rfl) (by kernel_rfl)
theorem ok137 : ∃ fn c, FuncOK Tryd.prog 137 f137 fn c := funcOK_of (pu := true) (ks := [[0,1],[0,1,7,8],[0,1,7,8,9],[0,1,5,7,8],[0,1,5,7,8,16],[4],[0,1,7,8],[4]]) Tryd.func137 rfl (by kernel_rfl) (by kernel_rfl) (by kernel_rfl) (by kernel_rfl)
theorem ok140 : ∃ fn c, FuncOK Tryd.prog 140 f140 fn c := funcOK_of (pu := true) (ks := [[0,1],[4]]) Tryd.func140 rfl (by kernel_rfl) (by kernel_rfl) (by kernel_rfl) (by kernel_rfl)
theorem ok141 : ∃ fn c, FuncOK Tryd.prog 141 f141 fn c := funcOK_of (pu := false) (ks := [[0,2,3,4,10],[0,2,3,4,10,11],[0,2,3,4,10,11,18],[0,2,3,4,10,11,40],[0,2,3,4,10,11],[0,2,3,4,10,11,58],[0,2,3,4,11],[0,2,3,4,10]]) Tryd.func141 rfl (by kernel_rfl) (by kernel_rfl) (by kernel_rfl) (by kernel_rfl)
theorem ok142 : ∃ fn c, FuncOK Tryd.prog 142 f142 fn c := funcOK_of (pu := true) (ks := [[0],[2]]) Tryd.func142 rfl (by kernel_rfl) (by kernel_rfl) (by kernel_rfl) (by kernel_rfl)
theorem ok143 : ∃ fn c, FuncOK Tryd.prog 143 f143 fn c := funcOK_of (pu := false) (ks := [[0],[0],[0],[0],[2]]) Tryd.func143 rfl (by kernel_rfl) (by kernel_rfl) (by kernel_rfl) (by kernel_rfl)
theorem ok144 : ∃ fn c, FuncOK Tryd.prog 144 f144 fn c := funcOK_of (pu := false) (ks := [[0,1,2,3],[8]]) Tryd.func144 rfl (by kernel_rfl) (by kernel_rfl) (by kernel_rfl) (by kernel_rfl)
theorem ok145 : ∃ fn c, FuncOK Tryd.prog 145 f145 fn c := funcOK_of (pu := false) (ks := [[0,1,2,3,4,5],[0,1,2,3,4,5],[0,1,2,4,5],[2],[12]]) Tryd.func145 rfl (by kernel_rfl) (by kernel_rfl) (by kernel_rfl) (by kernel_rfl)
theorem ok147 : ∃ fn c, FuncOK Tryd.prog 147 f147 fn c := funcOK_of (pu := true) (ks := [[0,1,2],[6]]) Tryd.func147 rfl (by kernel_rfl) (by kernel_rfl) (by kernel_rfl) (by kernel_rfl)
theorem ok148 : ∃ fn c, FuncOK Tryd.prog 148 f148 fn c := funcOK_of (pu := true) (ks := [[0,1],[0,1,7,8],[0,1,7,8,9],[0,1,5,7,8],[0,1,5,7,8,16],[4],[0,1,7,8],[4]]) Tryd.func148 rfl (by kernel_rfl) (by kernel_rfl) (by kernel_rfl) (by kernel_rfl)
theorem ok150 : ∃ fn c, FuncOK Tryd.prog 150 f150 fn c := funcOK_of (pu := false) (ks := [[0,1,2,3,4],[1,2,3,22],[1,2],[10,11],[10,11]]) Tryd.func150 rfl (by kernel_rfl) (by kernel_rfl) (by kernel_rfl) (by kernel_rfl)
theorem ok172 : ∃ fn c, FuncOK Tryd.prog 172 f172 fn c := funcOK_of (pu := true) (ks := [[2,3],[2,3,5],[3,5,10,11,12],[3,5,10,11,12,13],[3,5,7,10,11,12],[3,5,10,11,12,19],[3,5,10,11,12],[3,5,10,11,12],[4]]) Tryd.func172 rfl (by kernel_rfl) (by kernel_rfl) (by kernel_rfl) (by kernel_rfl)
theorem ok174 : ∃ fn c, FuncOK Tryd.prog 174 f174 fn c := funcOK_of (pu := true) (ks := [[2,3],[4]]) Tryd.func174 rfl (by kernel_rfl) (by kernel_rfl) (by kernel_rfl) (by kernel_rfl)
theorem ok175 : ∃ fn c, FuncOK Tryd.prog 175 f175 fn c := funcOK_of (pu := true) (ks := [[1,2],[4]]) Tryd.func175 rfl (by kernel_rfl) (by kernel_rfl) (by kernel_rfl) (by kernel_rfl)
end Go.Oct.Wre
