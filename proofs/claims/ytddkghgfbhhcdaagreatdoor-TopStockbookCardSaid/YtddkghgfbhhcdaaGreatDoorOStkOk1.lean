/- Each function of the program compiles to the code that is written down for it. -/
import Derived.Test.YtddkghgfbhhcdaaGreatDoorOT2
import Derived.Test.YtddkghgfbhhcdaaGreatDoorOStkLit1
import Derived.Test.YtddkghgfbhhcdaaGreatDoorOStkLit00
import Derived.Test.YtddkghgfbhhcdaaGreatDoorProg
set_option maxRecDepth 100000
set_option maxHeartbeats 4000000
namespace Go.Oct.Stk
open Go.Proofs
theorem ok119 : ∃ fn c, FuncOK Tryz.prog 119 f119 fn c := funcOK_of (pu := false) (ks := [[0,1,6],[0,1,6,15],[0,1,6,7],[0,1,6,7,8],[0,1,6,7,8,9],[0,1,6,7,8,9,33],[0,1,6,7,8,9,10],[0,1,6,7,8,9,10,43],[0,1,6,7,8,9,10],[0,1,6,7,8,9],[0,1,6,7,8,9]]) Tryz.func119 rfl (by kernel_rfl) (by kernel_rfl) (by kernel_rfl) (by kernel_rfl)
theorem ok120 : ∃ fn c, FuncOK Tryz.prog 120 f120 fn c := funcOK_of (pu := false) (ks := [[0,1,2],[0,1,8],[0,1,8,9],[0,1,8,9,10],[0,1,8,9,10,11],[0,8,9,10,11,12],[0,8,9,10,11,12,32],[0,9,10,11,12,34],[0,9,10,11,12],[0,9,10,11,12],[0,9,10,11,12],[9,11],[11,49],[11,49,51],[6,7],[11,54],[6,7],[6,7]]) Tryz.func120 rfl (by kernel_rfl) (by kernel_rfl) (by kernel_rfl) (by kernel_rfl)
theorem ok121 : ∃ fn c, FuncOK Tryz.prog 121 f121 fn c := funcOK_of (pu := false) (ks := [[0,2,6],[0,6,7],[0,6,7,13],[0,6,7],[0,6,7],[0,6,7]]) Tryz.func121 rfl (by kernel_rfl) (by kernel_rfl) (by kernel_rfl) (by kernel_rfl)
theorem ok122 : ∃ fn c, FuncOK Tryz.prog 122 f122 fn c := funcOK_of (pu := true) (ks := [[0,1,2],[0,1,2,7],[0,1,2,7,8],[0,1,2,7,8,14],[0,1,2,7,8,32],[0,1,2,7,8],[0,1,2,7,8,37],[6],[0,1,2,7,8,41],[6],[0,1,2,7,8],[0,1,2,7,8,61],[0,1,2,7,8,9],[0,1,2,7,8,9,65],[0,1,2,7,8,9,78],[0,1,2,7,8,9],[0,1,2,7,8,9],[0,1,2,7,8,98],[0,1,2,7,8,10],[0,1,2,7,8,10,103],[0,1,2,7,8,10,116],[0,1,2,7,8,10],[0,1,2,7,8,10],[0,1,2,7,8],[6]]) Tryz.func122 rfl (by kernel_rfl) (by kernel_rfl) (by kernel_rfl) (by kernel_rfl)
theorem ok123 : ∃ fn c, FuncOK Tryz.prog 123 f123 fn c := funcOK_of (pu := true) (ks := [[0,1],[4]]) Tryz.func123 rfl (by kernel_rfl) (by kernel_rfl) (by kernel_rfl) (by kernel_rfl)
theorem ok124 : ∃ fn c, FuncOK Tryz.prog 124 f124 fn c := funcOK_of (pu := false) (ks := [[0,1,2,3],[0,1,2],[0,1,9,10],[0,1,9,10,43],[0,1,9,10],[0,1,9,10,59],[0,1,9,10],[0,1,9,10,64],[0,1,9,10],[0,1,9,10],[0,1,9,10],[8]]) Tryz.func124 rfl (by kernel_rfl) (by kernel_rfl) (by kernel_rfl) (by kernel_rfl)
theorem ok125 : ∃ fn c, FuncOK Tryz.prog 125 f125 fn c := funcOK_of (pu := false) (ks := [[0,1,2,3],[0,1,2],[0,1,10,11],[0,1,10,11,43],[0,1,10,11],[0,1,10,11,60],[0,1,10,11],[0,1,10,11,65],[11],[8,9],[0,1,10,11],[0,1,10,11],[0,1,10,11],[0,1,10,11,112],[0,1,10,11],[0,1,10,11,129],[0,1,10,11],[0,1,10,11,134],[0,1,10,11],[0,1,10,11],[0,1,10,11],[11],[8,9]]) Tryz.func125 rfl (by kernel_rfl) (by kernel_rfl) (by kernel_rfl) (by kernel_rfl)
theorem ok126 : ∃ fn c, FuncOK Tryz.prog 126 f126 fn c := funcOK_of (pu := true) (ks := [[0,1,2],[6]]) Tryz.func126 rfl (by kernel_rfl) (by kernel_rfl) (by kernel_rfl) (by kernel_rfl)
theorem ok127 : ∃ fn c, FuncOK Tryz.prog 127 f127 fn c := funcOK_of (pu := true) (ks := [[0],[0,18],[2],[20,21,22],[20,21,22,23],[4,20,21,22],[20,21,22,33],[2],[20,21,22],[2]]) Tryz.func127 rfl (by kernel_rfl) (by kernel_rfl) (by kernel_rfl) (by kernel_rfl)
theorem ok128 : ∃ fn c, FuncOK Tryz.prog 128 f128 fn c := funcOK_of (pu := true) (ks := [[0,1],[0,1,9],[4],[0,1,15],[4],[0,1,5],[0,1,5,6],[0,1,5,6,24],[4],[0,1,5,6],[0,1,5]]) Tryz.func128 rfl (by kernel_rfl) (by kernel_rfl) (by kernel_rfl) (by kernel_rfl)
theorem ok137 : ∃ fn c, FuncOK Tryz.prog 137 f137 fn c := funcOK_of (pu := true) (ks := [[0],[2]]) Tryz.func137 rfl (by kernel_rfl) (by kernel_rfl) (by kernel_rfl) (by kernel_rfl)
theorem ok138 : ∃ fn c, FuncOK Tryz.prog 138 f138 fn c := funcOK_of (pu := false) (ks := [[0],[0],[0],[0],[2]]) Tryz.func138 rfl (by kernel_rfl) (by kernel_rfl) (by kernel_rfl) (by kernel_rfl)
theorem ok142 : ∃ fn c, FuncOK Tryz.prog 142 f142 fn c := funcOK_of (pu := true) (ks := [[0,1],[0,1,7,8],[0,1,7,8,9],[0,1,5,7,8],[0,1,5,7,8,16],[4],[0,1,7,8],[4]]) Tryz.func142 rfl (by kernel_rfl) (by kernel_rfl) (by kernel_rfl) (by kernel_rfl)
theorem ok143 : ∃ fn c, FuncOK Tryz.prog 143 f143 fn c := funcOK_of (pu := true) (ks := [[0,1],[0,1,7,8],[0,1,7,8,9],[0,1,5,7,8],[0,1,5,7,8,16],[4],[0,1,7,8],[4]]) Tryz.func143 rfl (by kernel_rfl) (by kernel_rfl) (by kernel_rfl) (by kernel_rfl)
theorem ok144 : ∃ fn c, FuncOK Tryz.prog 144 f144 fn c := funcOK_of (pu := false) (ks := [[0,2,3,4,10],[0,2,3,4,10,11],[0,2,3,4,10,11,18],[0,2,3,4,10,11,40],[0,2,3,4,10,11],[0,2,3,4,10,11,58],[0,2,3,4,11],[0,2,3,4,10]]) Tryz.func144 rfl (by kernel_rfl) (by kernel_rfl) (by kernel_rfl) (by kernel_rfl)
theorem ok145 : ∃ fn c, FuncOK Tryz.prog 145 f145 fn c := funcOK_of (pu := false) (ks := [[0,1,2,3],[8]]) Tryz.func145 rfl (by kernel_rfl) (by kernel_rfl) (by kernel_rfl) (by kernel_rfl)
theorem ok146 : ∃ fn c, FuncOK Tryz.prog 146 f146 fn c := funcOK_of (pu := false) (ks := [[0,1,2,3,4,5],[0,1,2,3,4,5],[0,1,2,4,5],[2],[12]]) Tryz.func146 rfl (by kernel_rfl) (by kernel_rfl) (by kernel_rfl) (by kernel_rfl)
theorem ok147 : ∃ fn c, FuncOK Tryz.prog 147 f147 fn c := funcOK_of (pu := false) (ks := [[0,2,3,8],[0,2,3,8,9],[0,2,3,8,9,16],[0,2,3,8,9,36],[0,2,3,8,9],[0,2,3,8,9,52],[0,2,3,9],[0,2,3,8]]) Tryz.func147 rfl (by kernel_rfl) (by kernel_rfl) (by kernel_rfl) (by kernel_rfl)
theorem ok148 : ∃ fn c, FuncOK Tryz.prog 148 f148 fn c := funcOK_of (pu := false) (ks := [[0,1,2],[6]]) Tryz.func148 rfl (by kernel_rfl) (by kernel_rfl) (by kernel_rfl) (by kernel_rfl)
theorem ok149 : ∃ fn c, FuncOK Tryz.prog 149 f149 fn c := funcOK_of (pu := false) (ks := [[0,1,2,3,4],[0,1,2,3,4],[0,1,2,4],[2],[10]]) Tryz.func149 rfl (by kernel_rfl) (by kernel_rfl) (by kernel_rfl) (by kernel_rfl)
theorem ok152 : ∃ fn c, FuncOK Tryz.prog 152 f152 fn c := funcOK_of (pu := true) (ks := [[0,1],[4]]) Tryz.func152 rfl (by kernel_rfl) (by kernel_rfl) (by kernel_rfl) (by kernel_rfl)
theorem ok159 : ∃ fn c, FuncOK Tryz.prog 159 f159 fn c := funcOK_of (pu := false) (ks := [[0,1,2,3,4],[1,2,3,22],[1,2],[10,11],[10,11]]) Tryz.func159 rfl (by kernel_rfl) (by kernel_rfl) (by kernel_rfl) (by kernel_rfl)
theorem ok160 : ∃ fn c, FuncOK Tryz.prog 160 f160 fn c := funcOK_of (pu := false) (ks := [[0,1,2,3],[1,2,3,18],[1,2],[8,9],[8,9]]) Tryz.func160 rfl (by kernel_rfl) (by kernel_rfl) (by kernel_rfl) (by kernel_rfl)
theorem ok185 : ∃ fn c, FuncOK Tryz.prog 185 f185 fn c := funcOK_of (pu := true) (ks := [[1],[2]]) Tryz.func185 rfl (by kernel_rfl) (by kernel_rfl) (by kernel_rfl) (by kernel_rfl)
theorem ok188 : ∃ fn c, FuncOK Tryz.prog 188 f188 fn c := funcOK_of (pu := true) (ks := [[1],[2]]) Tryz.func188 rfl (by kernel_rfl) (by kernel_rfl) (by kernel_rfl) (by kernel_rfl)
theorem ok189 : ∃ fn c, FuncOK Tryz.prog 189 f189 fn c := funcOK_of (pu := true) (ks := [[1],[2]]) Tryz.func189 rfl (by kernel_rfl) (by kernel_rfl) (by kernel_rfl) (by kernel_rfl)
theorem ok190 : ∃ fn c, FuncOK Tryz.prog 190 f190 fn c := funcOK_of (pu := true) (ks := [[1],[2]]) Tryz.func190 rfl (by kernel_rfl) (by kernel_rfl) (by kernel_rfl) (by kernel_rfl)
theorem ok191 : ∃ fn c, FuncOK Tryz.prog 191 f191 fn c := funcOK_of (pu := true) (ks := [[1],[2]]) Tryz.func191 rfl (by kernel_rfl) (by kernel_rfl) (by kernel_rfl) (by kernel_rfl)
theorem ok192 : ∃ fn c, FuncOK Tryz.prog 192 f192 fn c := funcOK_of (pu := true) (ks := [[1],[2]]) Tryz.func192 rfl (by kernel_rfl) (by kernel_rfl) (by kernel_rfl) (by kernel_rfl)
end Go.Oct.Stk
