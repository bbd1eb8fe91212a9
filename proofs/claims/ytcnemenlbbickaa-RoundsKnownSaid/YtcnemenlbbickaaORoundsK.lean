/- A function without arguments answers yes: its run, in the kernel. -/
import Derived.Test.YtcnemenlbbickaaORoundsG
import Derived.Test.YtcnemenlbbickaaOF
import Derived.Test.YtcnemenlbbickaaOT2
set_option maxRecDepth 1000000
namespace Go.Oct.Rounds
open Go.Proofs
namespace K
theorem run : farun1 prog (farun prog 1000) 1000 (.fn 13) [] ⟨0, 0, .leaf⟩ (fun v _ => fyes v) = .ok := by kernel_rfl
theorem says : SaysTrue Try.prog 13 := fun w => by
  obtain ⟨s, h⟩ := run_fast run
  exact run_true compP fol noO_ok h w
end K
end Go.Oct.Rounds
