/- A function without arguments answers yes: its run, in the kernel. -/
import Derived.Test.YtpgjndgpackffaaGreatDoorOPlansG
import Derived.Test.YtpgjndgpackffaaGreatDoorOF
import Derived.Test.YtpgjndgpackffaaGreatDoorOT2
set_option maxRecDepth 1000000
set_option maxHeartbeats 100000000
namespace Go.Oct.Plans
open Go.Proofs
namespace W
theorem run : farun1 prog (farun prog 1000) 1000 (.fn 14) [] ⟨0, 0, .leaf⟩ (fun v _ => fyes v) = .ok := by kernel_rfl
theorem says : SaysTrue Tryz.prog 14 := by
  obtain ⟨s, h⟩ := run_fast run
  exact says_of compP fol noO_ok h
end W
end Go.Oct.Plans
