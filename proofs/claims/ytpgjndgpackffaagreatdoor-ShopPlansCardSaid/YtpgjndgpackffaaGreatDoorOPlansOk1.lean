/- Each function of the program compiles to the code that is written down for it. -/
import Derived.Test.YtpgjndgpackffaaGreatDoorOT2
import Derived.Test.YtpgjndgpackffaaGreatDoorOPlansLit1
import Derived.Test.YtpgjndgpackffaaGreatDoorOPlansLit00
import Derived.Test.YtpgjndgpackffaaGreatDoorProg
set_option maxRecDepth 100000
set_option maxHeartbeats 4000000
namespace Go.Oct.Plans
open Go.Proofs
theorem ok76 : ∃ fn c, FuncOK Tryz.prog 76 f76 fn c := funcOK_of (pu := true) (ks := [[0,1,2],[0,1,2,7],[0,1,2,7,8],[0,1,2,7,8,14],[0,1,2,7,8,32],[0,1,2,7,8],[0,1,2,7,8,37],[6],[0,1,2,7,8,41],[6],[0,1,2,7,8],[0,1,2,7,8,61],[0,1,2,7,8,9],[0,1,2,7,8,9,65],[0,1,2,7,8,9,78],[0,1,2,7,8,9],[0,1,2,7,8,9],[0,1,2,7,8,98],[0,1,2,7,8,10],[0,1,2,7,8,10,103],[0,1,2,7,8,10,116],[0,1,2,7,8,10],[0,1,2,7,8,10],[0,1,2,7,8],[6]]) Tryz.func76 rfl (by kernel_rfl) (by kernel_rfl) (by kernel_rfl) (by kernel_rfl)
theorem ok77 : ∃ fn c, FuncOK Tryz.prog 77 f77 fn c := funcOK_of (pu := true) (ks := [[0,1],[4]]) Tryz.func77 rfl (by kernel_rfl) (by kernel_rfl) (by kernel_rfl) (by kernel_rfl)
theorem ok78 : ∃ fn c, FuncOK Tryz.prog 78 f78 fn c := funcOK_of (pu := false) (ks := [[0,1,2,3],[0,1,2],[0,1,9,10],[0,1,9,10,43],[0,1,9,10],[0,1,9,10,59],[0,1,9,10],[0,1,9,10,64],[0,1,9,10],[0,1,9,10],[0,1,9,10],[8]]) Tryz.func78 rfl (by kernel_rfl) (by kernel_rfl) (by kernel_rfl) (by kernel_rfl)
theorem ok79 : ∃ fn c, FuncOK Tryz.prog 79 f79 fn c := funcOK_of (pu := false) (ks := [[0,1,2,3],[0,1,2],[0,1,10,11],[0,1,10,11,43],[0,1,10,11],[0,1,10,11,60],[0,1,10,11],[0,1,10,11,65],[11],[8,9],[0,1,10,11],[0,1,10,11],[0,1,10,11],[0,1,10,11,112],[0,1,10,11],[0,1,10,11,129],[0,1,10,11],[0,1,10,11,134],[0,1,10,11],[0,1,10,11],[0,1,10,11],[11],[8,9]]) Tryz.func79 rfl (by kernel_rfl) (by kernel_rfl) (by kernel_rfl) (by kernel_rfl)
theorem ok80 : ∃ fn c, FuncOK Tryz.prog 80 f80 fn c := funcOK_of (pu := true) (ks := [[0,1],[0,1,7,8],[0,1,7,8,9],[0,1,5,7,8],[0,1,5,7,8,16],[4],[0,1,7,8],[4]]) Tryz.func80 rfl (by kernel_rfl) (by kernel_rfl) (by kernel_rfl) (by kernel_rfl)
theorem ok81 : ∃ fn c, FuncOK Tryz.prog 81 f81 fn c := funcOK_of (pu := true) (ks := [[0,1],[4]]) Tryz.func81 rfl (by kernel_rfl) (by kernel_rfl) (by kernel_rfl) (by kernel_rfl)
theorem ok82 : ∃ fn c, FuncOK Tryz.prog 82 f82 fn c := funcOK_of (pu := true) (ks := [[1],[2]]) Tryz.func82 rfl (by kernel_rfl) (by kernel_rfl) (by kernel_rfl) (by kernel_rfl)
theorem ok83 : ∃ fn c, FuncOK Tryz.prog 83 f83 fn c := funcOK_of (pu := true) (ks := [[0],[2]]) Tryz.func83 rfl (by kernel_rfl) (by kernel_rfl) (by kernel_rfl) (by kernel_rfl)
theorem ok84 : ∃ fn c, FuncOK Tryz.prog 84 f84 fn c := funcOK_of (pu := false) (ks := [[0,1,2,3,4,5,6,17],[0,2,3,4,5,8],[0,2,3,4,5,8,18,19,20],[0,2,3,4,5,8,18,19,20,21],[0,2,3,4,5,8,10,18,19,20],[0,2,3,4,5,8,18,19,20],[0,2,3,4,5,8,18,19,20],[0,3,4,5,11],[0,3,4,5,11,41],[],[0,1,2,6,46,47],[0,1,2,6,46,47,48],[0,1,2,6,12,46,47],[0,1,2,6,12,46,47,65],[0,1,2,6,46,47],[0,1,2,6,46,47]]) Tryz.func84 rfl (by kernel_rfl) (by kernel_rfl) (by kernel_rfl) (by kernel_rfl)
theorem ok85 : ∃ fn c, FuncOK Tryz.prog 85 f85 fn c := funcOK_of (pu := true) (ks := [[0,2],[2,5,6,7],[2,5,6,7,8],[2,4,5,6,7],[2,5,6,7],[2,5,6,7],[2]]) Tryz.func85 rfl (by kernel_rfl) (by kernel_rfl) (by kernel_rfl) (by kernel_rfl)
theorem ok86 : ∃ fn c, FuncOK Tryz.prog 86 f86 fn c := funcOK_of (pu := false) (ks := [[0],[0,4],[2],[2]]) Tryz.func86 rfl (by kernel_rfl) (by kernel_rfl) (by kernel_rfl) (by kernel_rfl)
theorem ok87 : ∃ fn c, FuncOK Tryz.prog 87 f87 fn c := funcOK_of (pu := true) (ks := [[1,2],[4]]) Tryz.func87 rfl (by kernel_rfl) (by kernel_rfl) (by kernel_rfl) (by kernel_rfl)
theorem ok88 : ∃ fn c, FuncOK Tryz.prog 88 f88 fn c := funcOK_of (pu := true) (ks := [[0,1],[4]]) Tryz.func88 rfl (by kernel_rfl) (by kernel_rfl) (by kernel_rfl) (by kernel_rfl)
theorem ok89 : ∃ fn c, FuncOK Tryz.prog 89 f89 fn c := funcOK_of (pu := true) (ks := [[0,1],[0,1,5],[0,1,5,6],[0,1,6,11],[12],[4],[4],[0,1,13],[4],[0,1,16],[4],[19],[4],[4]]) Tryz.func89 rfl (by kernel_rfl) (by kernel_rfl) (by kernel_rfl) (by kernel_rfl)
theorem ok90 : ∃ fn c, FuncOK Tryz.prog 90 f90 fn c := funcOK_of (pu := true) (ks := [[0,1],[4]]) Tryz.func90 rfl (by kernel_rfl) (by kernel_rfl) (by kernel_rfl) (by kernel_rfl)
theorem ok91 : ∃ fn c, FuncOK Tryz.prog 91 f91 fn c := funcOK_of (pu := false) (ks := [[0,2,3,4,10],[0,2,3,4,10,11],[0,2,3,4,10,11,18],[0,2,3,4,10,11,40],[0,2,3,4,10,11],[0,2,3,4,10,11,58],[0,2,3,4,11],[0,2,3,4,10]]) Tryz.func91 rfl (by kernel_rfl) (by kernel_rfl) (by kernel_rfl) (by kernel_rfl)
theorem ok92 : ∃ fn c, FuncOK Tryz.prog 92 f92 fn c := funcOK_of (pu := true) (ks := [[0],[2]]) Tryz.func92 rfl (by kernel_rfl) (by kernel_rfl) (by kernel_rfl) (by kernel_rfl)
theorem ok93 : ∃ fn c, FuncOK Tryz.prog 93 f93 fn c := funcOK_of (pu := true) (ks := [[0],[0],[0],[0],[2]]) Tryz.func93 rfl (by kernel_rfl) (by kernel_rfl) (by kernel_rfl) (by kernel_rfl)
theorem ok94 : ∃ fn c, FuncOK Tryz.prog 94 f94 fn c := funcOK_of (pu := false) (ks := [[0,1,2,3],[8]]) Tryz.func94 rfl (by kernel_rfl) (by kernel_rfl) (by kernel_rfl) (by kernel_rfl)
theorem ok95 : ∃ fn c, FuncOK Tryz.prog 95 f95 fn c := funcOK_of (pu := false) (ks := [[0,1,2,3,4,5],[0,1,2,3,4,5],[0,1,2,4,5],[2],[12]]) Tryz.func95 rfl (by kernel_rfl) (by kernel_rfl) (by kernel_rfl) (by kernel_rfl)
theorem ok96 : ∃ fn c, FuncOK Tryz.prog 96 f96 fn c := funcOK_of (pu := false) (ks := [[0,2,3,8],[0,2,3,8,9],[0,2,3,8,9,16],[0,2,3,8,9,36],[0,2,3,8,9],[0,2,3,8,9,52],[0,2,3,9],[0,2,3,8]]) Tryz.func96 rfl (by kernel_rfl) (by kernel_rfl) (by kernel_rfl) (by kernel_rfl)
theorem ok97 : ∃ fn c, FuncOK Tryz.prog 97 f97 fn c := funcOK_of (pu := false) (ks := [[0,1,2],[6]]) Tryz.func97 rfl (by kernel_rfl) (by kernel_rfl) (by kernel_rfl) (by kernel_rfl)
theorem ok98 : ∃ fn c, FuncOK Tryz.prog 98 f98 fn c := funcOK_of (pu := false) (ks := [[0,1,2,3,4],[0,1,2,3,4],[0,1,2,4],[2],[10]]) Tryz.func98 rfl (by kernel_rfl) (by kernel_rfl) (by kernel_rfl) (by kernel_rfl)
theorem ok99 : ∃ fn c, FuncOK Tryz.prog 99 f99 fn c := funcOK_of (pu := true) (ks := [[0],[2]]) Tryz.func99 rfl (by kernel_rfl) (by kernel_rfl) (by kernel_rfl) (by kernel_rfl)
theorem ok100 : ∃ fn c, FuncOK Tryz.prog 100 f100 fn c := funcOK_of (pu := true) (ks := [[0,1],[0,1,7,8],[0,1,7,8,9],[0,1,5,7,8],[0,1,5,7,8,16],[4],[0,1,7,8],[4]]) Tryz.func100 rfl (by kernel_rfl) (by kernel_rfl) (by kernel_rfl) (by kernel_rfl)
theorem ok101 : ∃ fn c, FuncOK Tryz.prog 101 f101 fn c := funcOK_of (pu := true) (ks := [[0,1],[0,1,7,8],[0,1,7,8,9],[0,1,5,7,8],[0,1,5,7,8,16],[4],[0,1,7,8],[4]]) Tryz.func101 rfl (by kernel_rfl) (by kernel_rfl) (by kernel_rfl) (by kernel_rfl)
theorem ok102 : ∃ fn c, FuncOK Tryz.prog 102 f102 fn c := funcOK_of (pu := true) (ks := [[0,1],[1,5],[1,5,10],[5],[4]]) Tryz.func102 rfl (by kernel_rfl) (by kernel_rfl) (by kernel_rfl) (by kernel_rfl)
theorem ok103 : ∃ fn c, FuncOK Tryz.prog 103 f103 fn c := funcOK_of (pu := false) (ks := [[0,1,2,3,4],[1,2,3,22],[1,2],[10,11],[10,11]]) Tryz.func103 rfl (by kernel_rfl) (by kernel_rfl) (by kernel_rfl) (by kernel_rfl)
theorem ok104 : ∃ fn c, FuncOK Tryz.prog 104 f104 fn c := funcOK_of (pu := false) (ks := [[0,1,2,3],[1,2,3,18],[1,2],[8,9],[8,9]]) Tryz.func104 rfl (by kernel_rfl) (by kernel_rfl) (by kernel_rfl) (by kernel_rfl)
theorem ok120 : ∃ fn c, FuncOK Tryz.prog 120 f120 fn c := funcOK_of (pu := true) (ks := [[1],[2]]) Tryz.func120 rfl (by kernel_rfl) (by kernel_rfl) (by kernel_rfl) (by kernel_rfl)
theorem ok122 : ∃ fn c, FuncOK Tryz.prog 122 f122 fn c := funcOK_of (pu := true) (ks := [[1],[2]]) Tryz.func122 rfl (by kernel_rfl) (by kernel_rfl) (by kernel_rfl) (by kernel_rfl)
theorem ok123 : ∃ fn c, FuncOK Tryz.prog 123 f123 fn c := funcOK_of (pu := true) (ks := [[1],[2]]) Tryz.func123 rfl (by kernel_rfl) (by kernel_rfl) (by kernel_rfl) (by kernel_rfl)
theorem ok124 : ∃ fn c, FuncOK Tryz.prog 124 f124 fn c := funcOK_of (pu := true) (ks := [[1],[2]]) Tryz.func124 rfl (by kernel_rfl) (by kernel_rfl) (by kernel_rfl) (by kernel_rfl)
theorem ok125 : ∃ fn c, FuncOK Tryz.prog 125 f125 fn c := funcOK_of (pu := true) (ks := [[1],[2]]) Tryz.func125 rfl (by kernel_rfl) (by kernel_rfl) (by kernel_rfl) (by kernel_rfl)
theorem ok126 : ∃ fn c, FuncOK Tryz.prog 126 f126 fn c := funcOK_of (pu := true) (ks := [[1],[2]]) Tryz.func126 rfl (by kernel_rfl) (by kernel_rfl) (by kernel_rfl) (by kernel_rfl)
end Go.Oct.Plans
