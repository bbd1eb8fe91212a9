/- A function without arguments answers yes: its run, in the kernel. -/
import Derived.Test.YtddkghgfbhhcdaaGreatDoorOLogG
import Derived.Test.YtddkghgfbhhcdaaGreatDoorOF
import Derived.Test.YtddkghgfbhhcdaaGreatDoorOT2
set_option maxRecDepth 1000000
set_option maxHeartbeats 100000000
namespace Go.Oct.Log
open Go.Proofs
namespace W
theorem run : farun1 prog (farun prog 2000) 2000 (.fn 11) [] ⟨0, 0, .leaf⟩ (fun v _ => fyes v) = .ok := by kernel_rfl
theorem says : SaysTrue Tryz.prog 11 := by
  obtain ⟨s, h⟩ := run_fast run
  exact says_of compP fol noO_ok h
end W
end Go.Oct.Log
