/- Whether a plan is one: the specification's answer. -/
import Derived.Test.YtddkghgfbhhcdaaGreatDoorOStkFit
set_option maxRecDepth 100000
set_option maxHeartbeats 8000000
set_option linter.unusedVariables false
set_option linter.unusedSimpArgs false
namespace Go.Oct.Stk.Sh
open Go.Oct
def dl (f : Nat → Int) (n : Nat) : List Int := (List.range n).map f
@[simp] theorem dl_len (f : Nat → Int) (n : Nat) : (dl f n).length = n := by simp [dl]
end Go.Oct.Stk.Sh
