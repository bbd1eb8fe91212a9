/- A function without arguments answers yes: its run, in the kernel. -/
import Derived.Test.YtddkghgfbhhcdaaGreatDoorOStkG
import Derived.Test.YtddkghgfbhhcdaaGreatDoorOT2
set_option maxRecDepth 1000000
set_option maxHeartbeats 100000000
namespace Go.Oct.Stk
open Go.Proofs
namespace W
def isYes (r : Option (AV × AH)) : Bool := match r with
  | some (.bool true, _) => true
  | _ => false
theorem run : isYes (arun1 prog (arun prog noO 60) 60 (.fn 16) [] ⟨0, 0, .leaf⟩) = true := by kernel_rfl
theorem says : SaysTrue Tryz.prog 16 := by
  have h := run
  unfold isYes at h
  split at h
  · rename_i s h2
    exact says_of compP fol noO_ok h2
  · cases h
end W
end Go.Oct.Stk
