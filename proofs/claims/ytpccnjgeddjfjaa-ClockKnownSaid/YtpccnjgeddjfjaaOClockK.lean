/- A function without arguments answers yes: its run, in the kernel, where what works() answers is known. -/
import Derived.Test.YtpccnjgeddjfjaaOClockW
import Derived.Test.YtpccnjgeddjfjaaOF
set_option maxRecDepth 1000000
set_option maxHeartbeats 100000000
namespace Go.Oct.Clock
open Go.Proofs
namespace K
theorem run : farun1 prog (farunO prog [22] 1000) 1000 (.fn 14) [] ⟨0, 0, .leaf⟩ (fun v _ => fyes v) = .ok := by kernel_rfl
theorem says : SaysTrue Try.prog 14 := fun w => by
  obtain ⟨s, h⟩ := run_fastO run
  exact run_true compP fol (trueO_ok compP (fs := [22]) fun f hf => by
    have e : f = 22 := by simpa using hf
    subst e
    exact ⟨⟨_, get22⟩, W.says⟩) h w
end K
end Go.Oct.Clock
