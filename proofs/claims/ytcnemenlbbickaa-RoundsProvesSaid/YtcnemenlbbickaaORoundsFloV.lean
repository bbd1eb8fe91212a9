/- Nets: an angle is changed as far as it can be, walked. -/
import Derived.Test.YtcnemenlbbickaaORoundsFloU
set_option maxRecDepth 100000
set_option maxHeartbeats 8000000
set_option linter.unusedVariables false
set_option linter.unusedSimpArgs false
namespace Go.Oct.Rounds
open Go.Oct
section
variable {N : Nat} {nC : Bool} {aA : AV} {C : List Bool} {A : List An}
end
end Go.Oct.Rounds
