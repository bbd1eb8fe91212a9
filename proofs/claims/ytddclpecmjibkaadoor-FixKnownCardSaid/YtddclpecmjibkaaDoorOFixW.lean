/- A function without arguments answers yes: its run, in the kernel. -/
import Derived.Test.YtddclpecmjibkaaDoorOFixG
import Derived.Test.YtddclpecmjibkaaDoorOF
import Derived.Test.YtddclpecmjibkaaDoorOT2
set_option maxRecDepth 1000000
set_option maxHeartbeats 100000000
namespace Go.Oct.Fix
open Go.Proofs
namespace W
theorem run : farun1 prog (farun prog 1000) 1000 (.fn 26) [] ⟨0, 0, .leaf⟩ (fun v _ => fyes v) = .ok := by kernel_rfl
theorem says : SaysTrue Tryd.prog 26 := by
  obtain ⟨s, h⟩ := run_fast run
  exact says_of compP fol noO_ok h
end W
end Go.Oct.Fix
