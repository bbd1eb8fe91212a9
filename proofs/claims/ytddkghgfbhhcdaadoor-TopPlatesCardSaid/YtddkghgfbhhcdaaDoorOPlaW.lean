/- A function without arguments answers yes: its run, in the kernel. -/
import Derived.Test.YtddkghgfbhhcdaaDoorOPlaG
import Derived.Test.YtddkghgfbhhcdaaDoorOF
import Derived.Test.YtddkghgfbhhcdaaDoorOT2
set_option maxRecDepth 1000000
set_option maxHeartbeats 100000000
namespace Go.Oct.Pla
open Go.Proofs
namespace W
theorem run : farun1 prog (farun prog 5000) 5000 (.fn 10) [] ⟨0, 0, .leaf⟩ (fun v _ => fyes v) = .ok := by kernel_rfl
theorem says : SaysTrue Tryd.prog 10 := by
  obtain ⟨s, h⟩ := run_fast run
  exact says_of compP fol noO_ok h
end W
end Go.Oct.Pla
