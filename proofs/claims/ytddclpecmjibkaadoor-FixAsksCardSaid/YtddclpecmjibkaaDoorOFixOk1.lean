/- Each function of the program compiles to the code that is written down for it. -/
import Derived.Test.YtddclpecmjibkaaDoorOT2
import Derived.Test.YtddclpecmjibkaaDoorOFixLit1
import Derived.Test.YtddclpecmjibkaaDoorOFixLit00
import Derived.Test.YtddclpecmjibkaaDoorProg
set_option maxRecDepth 100000
set_option maxHeartbeats 4000000
namespace Go.Oct.Fix
open Go.Proofs
theorem ok109 : ∃ fn c, FuncOK Tryd.prog 109 f109 fn c := funcOK_of (pu := false) (ks := [[0,1,2,3,8],[0,1,2,3,8,9],[0,3,8,9,10],[0,3,8,9,10,11],[0,3,8,9,10,11,21],[0,3,8,9,10,11],[0,3,8,9,10,11],[0,3,8,9,12],[0,3,8,9,12,33],[0,3,8,9,12],[0,3,8,9,12],[0,3,8,9,12]]) Tryd.func109 rfl (by kernel_rfl) (by kernel_rfl) (by kernel_rfl) (by kernel_rfl)
theorem ok110 : ∃ fn c, FuncOK Tryd.prog 110 f110 fn c := funcOK_of (pu := false) (ks := [[0,1,8],[0,1,8,17],[0,1,8,9],[0,1,8,9,10],[0,1,8,9,10,11],[0,1,8,9,10,11,35],[0,1,8,9,10,11,12],[0,1,8,9,10,11,12,45],[0,1,8,9,10,11,12],[0,1,8,9,10,11],[0,1,8,9,10,11]]) Tryd.func110 rfl (by kernel_rfl) (by kernel_rfl) (by kernel_rfl) (by kernel_rfl)
theorem ok111 : ∃ fn c, FuncOK Tryd.prog 111 f111 fn c := funcOK_of (pu := false) (ks := [[0,1,2,3],[0,1,3,10],[0,1,3,10,11],[0,1,3,10,11,12],[0,1,3,10,11,12,13],[0,3,10,11,12,13,14],[0,3,10,11,12,13,14,34],[0,3,11,12,13,14,36],[0,3,11,12,13,14],[0,3,11,12,13,14],[0,3,11,12,13,14],[11,13],[13,55],[13,55,57],[8,9],[13,60],[8,9],[8,9]]) Tryd.func111 rfl (by kernel_rfl) (by kernel_rfl) (by kernel_rfl) (by kernel_rfl)
theorem ok112 : ∃ fn c, FuncOK Tryd.prog 112 f112 fn c := funcOK_of (pu := false) (ks := [[0,2,8],[0,8,9],[0,8,9,15],[0,8,9],[0,8,9],[0,8,9]]) Tryd.func112 rfl (by kernel_rfl) (by kernel_rfl) (by kernel_rfl) (by kernel_rfl)
theorem ok113 : ∃ fn c, FuncOK Tryd.prog 113 f113 fn c := funcOK_of (pu := true) (ks := [[0,1,2,3],[0,1,2,3,9],[0,1,2,3,9,10],[0,1,2,3,9,10,16],[0,1,2,3,9,10,36],[0,1,2,3,9,10],[0,1,2,3,9,10,41],[8],[0,1,2,3,9,10,45],[8],[0,1,2,3,9,10],[0,1,2,3,9,10,65],[0,1,2,3,9,10,11],[0,1,2,3,9,10,11,69],[0,1,2,3,9,10,11,84],[0,1,2,3,9,10,11],[0,1,2,3,9,10,11],[0,1,2,3,9,10,104],[0,1,2,3,9,10,12],[0,1,2,3,9,10,12,109],[0,1,2,3,9,10,12,124],[0,1,2,3,9,10,12],[0,1,2,3,9,10,12],[0,1,2,3,9,10],[8]]) Tryd.func113 rfl (by kernel_rfl) (by kernel_rfl) (by kernel_rfl) (by kernel_rfl)
theorem ok114 : ∃ fn c, FuncOK Tryd.prog 114 f114 fn c := funcOK_of (pu := false) (ks := [[0,1,2,3,4],[0,1,2,4],[0,1,4,11,12],[0,1,4,11,12,47],[0,1,4,11,12],[0,1,4,11,12,65],[0,1,4,11,12],[0,1,4,11,12,70],[0,1,4,11,12],[0,1,4,11,12],[0,1,4,11,12],[10]]) Tryd.func114 rfl (by kernel_rfl) (by kernel_rfl) (by kernel_rfl) (by kernel_rfl)
theorem ok115 : ∃ fn c, FuncOK Tryd.prog 115 f115 fn c := funcOK_of (pu := false) (ks := [[0,1,2,3,4],[0,1,2,4],[0,1,4,12,13],[0,1,4,12,13,47],[0,1,4,12,13],[0,1,4,12,13,66],[0,1,4,12,13],[0,1,4,12,13,71],[13],[10,11],[0,1,4,12,13],[0,1,4,12,13],[0,1,4,12,13],[0,1,4,12,13,120],[0,1,4,12,13],[0,1,4,12,13,139],[0,1,4,12,13],[0,1,4,12,13,144],[0,1,4,12,13],[0,1,4,12,13],[0,1,4,12,13],[13],[10,11]]) Tryd.func115 rfl (by kernel_rfl) (by kernel_rfl) (by kernel_rfl) (by kernel_rfl)
theorem ok116 : ∃ fn c, FuncOK Tryd.prog 116 f116 fn c := funcOK_of (pu := true) (ks := [[0,2],[0,2,4],[0],[0,2],[0,2,8],[0,2],[0,2],[2]]) Tryd.func116 rfl (by kernel_rfl) (by kernel_rfl) (by kernel_rfl) (by kernel_rfl)
theorem ok117 : ∃ fn c, FuncOK Tryd.prog 117 f117 fn c := funcOK_of (pu := true) (ks := [[0,2],[0,2,4],[0],[0,2],[0,2,8],[0,2],[0,2],[0,2,14],[0,2],[0,2],[2]]) Tryd.func117 rfl (by kernel_rfl) (by kernel_rfl) (by kernel_rfl) (by kernel_rfl)
theorem ok118 : ∃ fn c, FuncOK Tryd.prog 118 f118 fn c := funcOK_of (pu := false) (ks := [[0,2,3,4,10],[0,2,3,4,10,11],[0,2,3,4,10,11,18],[0,2,3,4,10,11,40],[0,2,3,4,10,11],[0,2,3,4,10,11,58],[0,2,3,4,11],[0,2,3,4,10]]) Tryd.func118 rfl (by kernel_rfl) (by kernel_rfl) (by kernel_rfl) (by kernel_rfl)
theorem ok119 : ∃ fn c, FuncOK Tryd.prog 119 f119 fn c := funcOK_of (pu := true) (ks := [[0],[2]]) Tryd.func119 rfl (by kernel_rfl) (by kernel_rfl) (by kernel_rfl) (by kernel_rfl)
theorem ok120 : ∃ fn c, FuncOK Tryd.prog 120 f120 fn c := funcOK_of (pu := true) (ks := [[0],[0],[0],[0],[2]]) Tryd.func120 rfl (by kernel_rfl) (by kernel_rfl) (by kernel_rfl) (by kernel_rfl)
theorem ok121 : ∃ fn c, FuncOK Tryd.prog 121 f121 fn c := funcOK_of (pu := false) (ks := [[0,1,2,3],[8]]) Tryd.func121 rfl (by kernel_rfl) (by kernel_rfl) (by kernel_rfl) (by kernel_rfl)
theorem ok122 : ∃ fn c, FuncOK Tryd.prog 122 f122 fn c := funcOK_of (pu := false) (ks := [[0,1,2,3,4,5],[0,1,2,3,4,5],[0,1,2,4,5],[2],[12]]) Tryd.func122 rfl (by kernel_rfl) (by kernel_rfl) (by kernel_rfl) (by kernel_rfl)
theorem ok123 : ∃ fn c, FuncOK Tryd.prog 123 f123 fn c := funcOK_of (pu := false) (ks := [[0,1,2,3,4],[1,2,3,22],[1,2],[10,11],[10,11]]) Tryd.func123 rfl (by kernel_rfl) (by kernel_rfl) (by kernel_rfl) (by kernel_rfl)
theorem ok139 : ∃ fn c, FuncOK Tryd.prog 139 f139 fn c := funcOK_of (pu := true) (ks := [[2,3],[2,3,5],[3,5,10,11,12],[3,5,10,11,12,13],[3,5,7,10,11,12],[3,5,10,11,12,19],[3,5,10,11,12],[3,5,10,11,12],[4]]) Tryd.func139 rfl (by kernel_rfl) (by kernel_rfl) (by kernel_rfl) (by kernel_rfl)
theorem ok141 : ∃ fn c, FuncOK Tryd.prog 141 f141 fn c := funcOK_of (pu := true) (ks := [[2,3],[4]]) Tryd.func141 rfl (by kernel_rfl) (by kernel_rfl) (by kernel_rfl) (by kernel_rfl)
end Go.Oct.Fix
