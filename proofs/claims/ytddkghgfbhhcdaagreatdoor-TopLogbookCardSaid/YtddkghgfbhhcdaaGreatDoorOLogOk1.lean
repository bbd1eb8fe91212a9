/- Each function of the program compiles to the code that is written down for it. -/
import Derived.Test.YtddkghgfbhhcdaaGreatDoorOT2
import Derived.Test.YtddkghgfbhhcdaaGreatDoorOLogLit1
import Derived.Test.YtddkghgfbhhcdaaGreatDoorOLogLit00
import Derived.Test.YtddkghgfbhhcdaaGreatDoorProg
set_option maxRecDepth 100000
set_option maxHeartbeats 4000000
namespace Go.Oct.Log
open Go.Proofs
theorem ok132 : ∃ fn c, FuncOK Tryz.prog 132 f132 fn c := funcOK_of (pu := true) (ks := [[1],[1,3],[1,3,4],[1,3,4,17],[1,3,4,17,18],[2],[1,3,4,17,39],[2],[1,3,4,71],[2],[2]]) Tryz.func132 rfl (by kernel_rfl) (by kernel_rfl) (by kernel_rfl) (by kernel_rfl)
theorem ok133 : ∃ fn c, FuncOK Tryz.prog 133 f133 fn c := funcOK_of (pu := true) (ks := [[0,1],[4]]) Tryz.func133 rfl (by kernel_rfl) (by kernel_rfl) (by kernel_rfl) (by kernel_rfl)
theorem ok134 : ∃ fn c, FuncOK Tryz.prog 134 f134 fn c := funcOK_of (pu := false) (ks := [[1,2],[3]]) Tryz.func134 rfl (by kernel_rfl) (by kernel_rfl) (by kernel_rfl) (by kernel_rfl)
theorem ok135 : ∃ fn c, FuncOK Tryz.prog 135 f135 fn c := funcOK_of (pu := false) (ks := [[0,2,3,5,6],[0,3,5,6,15],[0,3,5,6],[0,3,5,6,7],[0,3,5,6,7,43],[0,3,5,6,7,8],[0,3,5,6,7,8,59],[0,3,5,6,7,8,67],[0,3,5,6,7,8],[0,3,5,6,7]]) Tryz.func135 rfl (by kernel_rfl) (by kernel_rfl) (by kernel_rfl) (by kernel_rfl)
theorem ok136 : ∃ fn c, FuncOK Tryz.prog 136 f136 fn c := funcOK_of (pu := false) (ks := [[0,2,3,4,10],[0,2,3,4,10,11],[0,2,3,4,10,11,18],[0,2,3,4,10,11,40],[0,2,3,4,10,11],[0,2,3,4,10,11,58],[0,2,3,4,11],[0,2,3,4,10]]) Tryz.func136 rfl (by kernel_rfl) (by kernel_rfl) (by kernel_rfl) (by kernel_rfl)
theorem ok137 : ∃ fn c, FuncOK Tryz.prog 137 f137 fn c := funcOK_of (pu := true) (ks := [[0],[2]]) Tryz.func137 rfl (by kernel_rfl) (by kernel_rfl) (by kernel_rfl) (by kernel_rfl)
theorem ok138 : ∃ fn c, FuncOK Tryz.prog 138 f138 fn c := funcOK_of (pu := false) (ks := [[0],[0],[0],[0],[2]]) Tryz.func138 rfl (by kernel_rfl) (by kernel_rfl) (by kernel_rfl) (by kernel_rfl)
theorem ok139 : ∃ fn c, FuncOK Tryz.prog 139 f139 fn c := funcOK_of (pu := false) (ks := [[0,1,2,3],[8]]) Tryz.func139 rfl (by kernel_rfl) (by kernel_rfl) (by kernel_rfl) (by kernel_rfl)
theorem ok140 : ∃ fn c, FuncOK Tryz.prog 140 f140 fn c := funcOK_of (pu := false) (ks := [[0,1,2,3,4,5],[0,1,2,3,4,5],[0,1,2,4,5],[2],[12]]) Tryz.func140 rfl (by kernel_rfl) (by kernel_rfl) (by kernel_rfl) (by kernel_rfl)
theorem ok152 : ∃ fn c, FuncOK Tryz.prog 152 f152 fn c := funcOK_of (pu := true) (ks := [[0,1],[4]]) Tryz.func152 rfl (by kernel_rfl) (by kernel_rfl) (by kernel_rfl) (by kernel_rfl)
theorem ok153 : ∃ fn c, FuncOK Tryz.prog 153 f153 fn c := funcOK_of (pu := true) (ks := [[0,1],[0,1,7,8],[0,1,7,8,9],[0,1,5,7,8],[0,1,5,7,8,16],[4],[0,1,7,8],[4]]) Tryz.func153 rfl (by kernel_rfl) (by kernel_rfl) (by kernel_rfl) (by kernel_rfl)
theorem ok154 : ∃ fn c, FuncOK Tryz.prog 154 f154 fn c := funcOK_of (pu := true) (ks := [[0,1],[4]]) Tryz.func154 rfl (by kernel_rfl) (by kernel_rfl) (by kernel_rfl) (by kernel_rfl)
theorem ok155 : ∃ fn c, FuncOK Tryz.prog 155 f155 fn c := funcOK_of (pu := true) (ks := [[0,1],[4]]) Tryz.func155 rfl (by kernel_rfl) (by kernel_rfl) (by kernel_rfl) (by kernel_rfl)
theorem ok156 : ∃ fn c, FuncOK Tryz.prog 156 f156 fn c := funcOK_of (pu := true) (ks := [[1],[2]]) Tryz.func156 rfl (by kernel_rfl) (by kernel_rfl) (by kernel_rfl) (by kernel_rfl)
theorem ok157 : ∃ fn c, FuncOK Tryz.prog 157 f157 fn c := funcOK_of (pu := true) (ks := [[0,1],[0,1,7,8],[0,1,7,8,9],[0,1,5,7,8],[0,1,5,7,8,16],[4],[0,1,7,8],[4]]) Tryz.func157 rfl (by kernel_rfl) (by kernel_rfl) (by kernel_rfl) (by kernel_rfl)
theorem ok158 : ∃ fn c, FuncOK Tryz.prog 158 f158 fn c := funcOK_of (pu := false) (ks := [[0,1,2,3,4],[1,2,3,22],[1,2],[10,11],[10,11]]) Tryz.func158 rfl (by kernel_rfl) (by kernel_rfl) (by kernel_rfl) (by kernel_rfl)
theorem ok162 : ∃ fn c, FuncOK Tryz.prog 162 f162 fn c := funcOK_of (pu := true) (ks := [[0,1,2],[6]]) Tryz.func162 rfl (by kernel_rfl) (by kernel_rfl) (by kernel_rfl) (by kernel_rfl)
theorem ok163 : ∃ fn c, FuncOK Tryz.prog 163 f163 fn c := funcOK_of (pu := true) (ks := [[0,1],[0,1,7,8],[0,1,7,8,9],[0,1,5,7,8],[0,1,5,7,8,16],[4],[0,1,7,8],[4]]) Tryz.func163 rfl (by kernel_rfl) (by kernel_rfl) (by kernel_rfl) (by kernel_rfl)
theorem ok186 : ∃ fn c, FuncOK Tryz.prog 186 f186 fn c := funcOK_of (pu := true) (ks := [[2,3],[2,3,5],[3,5,10,11,12],[3,5,10,11,12,13],[3,5,7,10,11,12],[3,5,10,11,12,19],[3,5,10,11,12],[3,5,10,11,12],[4]]) Tryz.func186 rfl (by kernel_rfl) (by kernel_rfl) (by kernel_rfl) (by kernel_rfl)
theorem ok193 : ∃ fn c, FuncOK Tryz.prog 193 f193 fn c := funcOK_of (pu := true) (ks := [[2,3],[4]]) Tryz.func193 rfl (by kernel_rfl) (by kernel_rfl) (by kernel_rfl) (by kernel_rfl)
theorem ok194 : ∃ fn c, FuncOK Tryz.prog 194 f194 fn c := funcOK_of (pu := true) (ks := [[1,2],[4]]) Tryz.func194 rfl (by kernel_rfl) (by kernel_rfl) (by kernel_rfl) (by kernel_rfl)
end Go.Oct.Log
