/- Each function of the program compiles to the code that is written down for it. -/
import Derived.Test.YtpgjndgpackffaaDoorOT2
import Derived.Test.YtpgjndgpackffaaDoorOShopLit1
import Derived.Test.YtpgjndgpackffaaDoorOShopLit00
import Derived.Test.YtpgjndgpackffaaDoorProg
set_option maxRecDepth 100000
set_option maxHeartbeats 4000000
namespace Go.Oct.Shop
open Go.Proofs
theorem ok119 : ∃ fn c, FuncOK Tryd.prog 119 f119 fn c := funcOK_of (pu := false) (ks := [[0,1,6],[0,1,6,15],[0,1,6,7],[0,1,6,7,8],[0,1,6,7,8,9],[0,1,6,7,8,9,33],[0,1,6,7,8,9,10],[0,1,6,7,8,9,10,43],[0,1,6,7,8,9,10],[0,1,6,7,8,9],[0,1,6,7,8,9]]) Tryd.func119 rfl (by kernel_rfl) (by kernel_rfl) (by kernel_rfl) (by kernel_rfl)
theorem ok120 : ∃ fn c, FuncOK Tryd.prog 120 f120 fn c := funcOK_of (pu := false) (ks := [[0,1,2],[0,1,8],[0,1,8,9],[0,1,8,9,10],[0,1,8,9,10,11],[0,8,9,10,11,12],[0,8,9,10,11,12,32],[0,9,10,11,12,34],[0,9,10,11,12],[0,9,10,11,12],[0,9,10,11,12],[9,11],[11,49],[11,49,51],[6,7],[11,54],[6,7],[6,7]]) Tryd.func120 rfl (by kernel_rfl) (by kernel_rfl) (by kernel_rfl) (by kernel_rfl)
theorem ok121 : ∃ fn c, FuncOK Tryd.prog 121 f121 fn c := funcOK_of (pu := false) (ks := [[0,2,6],[0,6,7],[0,6,7,13],[0,6,7],[0,6,7],[0,6,7]]) Tryd.func121 rfl (by kernel_rfl) (by kernel_rfl) (by kernel_rfl) (by kernel_rfl)
theorem ok122 : ∃ fn c, FuncOK Tryd.prog 122 f122 fn c := funcOK_of (pu := true) (ks := [[0,1,2],[0,1,2,7],[0,1,2,7,8],[0,1,2,7,8,14],[0,1,2,7,8,32],[0,1,2,7,8],[0,1,2,7,8,37],[6],[0,1,2,7,8,41],[6],[0,1,2,7,8],[0,1,2,7,8,61],[0,1,2,7,8,9],[0,1,2,7,8,9,65],[0,1,2,7,8,9,78],[0,1,2,7,8,9],[0,1,2,7,8,9],[0,1,2,7,8,98],[0,1,2,7,8,10],[0,1,2,7,8,10,103],[0,1,2,7,8,10,116],[0,1,2,7,8,10],[0,1,2,7,8,10],[0,1,2,7,8],[6]]) Tryd.func122 rfl (by kernel_rfl) (by kernel_rfl) (by kernel_rfl) (by kernel_rfl)
theorem ok123 : ∃ fn c, FuncOK Tryd.prog 123 f123 fn c := funcOK_of (pu := true) (ks := [[0,1],[4]]) Tryd.func123 rfl (by kernel_rfl) (by kernel_rfl) (by kernel_rfl) (by kernel_rfl)
theorem ok124 : ∃ fn c, FuncOK Tryd.prog 124 f124 fn c := funcOK_of (pu := false) (ks := [[0,1,2,3],[0,1,2],[0,1,9,10],[0,1,9,10,43],[0,1,9,10],[0,1,9,10,59],[0,1,9,10],[0,1,9,10,64],[0,1,9,10],[0,1,9,10],[0,1,9,10],[8]]) Tryd.func124 rfl (by kernel_rfl) (by kernel_rfl) (by kernel_rfl) (by kernel_rfl)
theorem ok125 : ∃ fn c, FuncOK Tryd.prog 125 f125 fn c := funcOK_of (pu := false) (ks := [[0,1,2,3],[0,1,2],[0,1,10,11],[0,1,10,11,43],[0,1,10,11],[0,1,10,11,60],[0,1,10,11],[0,1,10,11,65],[11],[8,9],[0,1,10,11],[0,1,10,11],[0,1,10,11],[0,1,10,11,112],[0,1,10,11],[0,1,10,11,129],[0,1,10,11],[0,1,10,11,134],[0,1,10,11],[0,1,10,11],[0,1,10,11],[11],[8,9]]) Tryd.func125 rfl (by kernel_rfl) (by kernel_rfl) (by kernel_rfl) (by kernel_rfl)
theorem ok126 : ∃ fn c, FuncOK Tryd.prog 126 f126 fn c := funcOK_of (pu := false) (ks := [[0,2,3,4,10],[0,2,3,4,10,11],[0,2,3,4,10,11,18],[0,2,3,4,10,11,40],[0,2,3,4,10,11],[0,2,3,4,10,11,58],[0,2,3,4,11],[0,2,3,4,10]]) Tryd.func126 rfl (by kernel_rfl) (by kernel_rfl) (by kernel_rfl) (by kernel_rfl)
theorem ok127 : ∃ fn c, FuncOK Tryd.prog 127 f127 fn c := funcOK_of (pu := true) (ks := [[0],[2]]) Tryd.func127 rfl (by kernel_rfl) (by kernel_rfl) (by kernel_rfl) (by kernel_rfl)
theorem ok128 : ∃ fn c, FuncOK Tryd.prog 128 f128 fn c := funcOK_of (pu := true) (ks := [[0],[0],[0],[0],[2]]) Tryd.func128 rfl (by kernel_rfl) (by kernel_rfl) (by kernel_rfl) (by kernel_rfl)
theorem ok129 : ∃ fn c, FuncOK Tryd.prog 129 f129 fn c := funcOK_of (pu := false) (ks := [[0,1,2,3],[8]]) Tryd.func129 rfl (by kernel_rfl) (by kernel_rfl) (by kernel_rfl) (by kernel_rfl)
theorem ok130 : ∃ fn c, FuncOK Tryd.prog 130 f130 fn c := funcOK_of (pu := false) (ks := [[0,1,2,3,4,5],[0,1,2,3,4,5],[0,1,2,4,5],[2],[12]]) Tryd.func130 rfl (by kernel_rfl) (by kernel_rfl) (by kernel_rfl) (by kernel_rfl)
theorem ok131 : ∃ fn c, FuncOK Tryd.prog 131 f131 fn c := funcOK_of (pu := false) (ks := [[0,2,3,8],[0,2,3,8,9],[0,2,3,8,9,16],[0,2,3,8,9,36],[0,2,3,8,9],[0,2,3,8,9,52],[0,2,3,9],[0,2,3,8]]) Tryd.func131 rfl (by kernel_rfl) (by kernel_rfl) (by kernel_rfl) (by kernel_rfl)
theorem ok132 : ∃ fn c, FuncOK Tryd.prog 132 f132 fn c := funcOK_of (pu := false) (ks := [[0,1,2],[6]]) Tryd.func132 rfl (by kernel_rfl) (by kernel_rfl) (by kernel_rfl) (by kernel_rfl)
theorem ok133 : ∃ fn c, FuncOK Tryd.prog 133 f133 fn c := funcOK_of (pu := false) (ks := [[0,1,2,3,4],[0,1,2,3,4],[0,1,2,4],[2],[10]]) Tryd.func133 rfl (by kernel_rfl) (by kernel_rfl) (by kernel_rfl) (by kernel_rfl)
theorem ok134 : ∃ fn c, FuncOK Tryd.prog 134 f134 fn c := funcOK_of (pu := false) (ks := [[0,1,2,3,4],[1,2,3,22],[1,2],[10,11],[10,11]]) Tryd.func134 rfl (by kernel_rfl) (by kernel_rfl) (by kernel_rfl) (by kernel_rfl)
theorem ok135 : ∃ fn c, FuncOK Tryd.prog 135 f135 fn c := funcOK_of (pu := false) (ks := [[0,1,2,3],[1,2,3,18],[1,2],[8,9],[8,9]]) Tryd.func135 rfl (by kernel_rfl) (by kernel_rfl) (by kernel_rfl) (by kernel_rfl)
theorem ok151 : ∃ fn c, FuncOK Tryd.prog 151 f151 fn c := funcOK_of (pu := true) (ks := [[1],[2]]) Tryd.func151 rfl (by kernel_rfl) (by kernel_rfl) (by kernel_rfl) (by kernel_rfl)
theorem ok153 : ∃ fn c, FuncOK Tryd.prog 153 f153 fn c := funcOK_of (pu := true) (ks := [[1],[2]]) Tryd.func153 rfl (by kernel_rfl) (by kernel_rfl) (by kernel_rfl) (by kernel_rfl)
theorem ok154 : ∃ fn c, FuncOK Tryd.prog 154 f154 fn c := funcOK_of (pu := true) (ks := [[1],[2]]) Tryd.func154 rfl (by kernel_rfl) (by kernel_rfl) (by kernel_rfl) (by kernel_rfl)
theorem ok155 : ∃ fn c, FuncOK Tryd.prog 155 f155 fn c := funcOK_of (pu := true) (ks := [[1],[2]]) Tryd.func155 rfl (by kernel_rfl) (by kernel_rfl) (by kernel_rfl) (by kernel_rfl)
theorem ok156 : ∃ fn c, FuncOK Tryd.prog 156 f156 fn c := funcOK_of (pu := true) (ks := [[1],[2]]) Tryd.func156 rfl (by kernel_rfl) (by kernel_rfl) (by kernel_rfl) (by kernel_rfl)
theorem ok157 : ∃ fn c, FuncOK Tryd.prog 157 f157 fn c := funcOK_of (pu := true) (ks := [[1],[2]]) Tryd.func157 rfl (by kernel_rfl) (by kernel_rfl) (by kernel_rfl) (by kernel_rfl)
end Go.Oct.Shop
