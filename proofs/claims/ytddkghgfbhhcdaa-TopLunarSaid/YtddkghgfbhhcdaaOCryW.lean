/- A function without arguments answers yes: its run, in the kernel. -/
import Derived.Test.YtddkghgfbhhcdaaOCryG
import Derived.Test.YtddkghgfbhhcdaaOF
import Derived.Test.YtddkghgfbhhcdaaOT2
set_option maxRecDepth 1000000
set_option maxHeartbeats 100000000
namespace Go.Oct.Cry
open Go.Proofs
namespace W
theorem run : farun1 prog (farun prog 1000) 1000 (.fn 25) [] ⟨0, 0, .leaf⟩ (fun v _ => fyes v) = .ok := by kernel_rfl
theorem says : SaysTrue Try.prog 25 := by
  obtain ⟨s, h⟩ := run_fast run
  exact says_of compP fol noO_ok h
end W
end Go.Oct.Cry
