/- A function without arguments answers yes: its run, in the kernel, where what works() answers is known. -/
import Derived.Test.YtpgjndgpackffaaDoorOShopW
import Derived.Test.YtpgjndgpackffaaDoorOF
set_option maxRecDepth 1000000
set_option maxHeartbeats 100000000
namespace Go.Oct.Shop
open Go.Proofs
namespace K
theorem run : farun1 prog (farunO prog [16] 1000) 1000 (.fn 13) [] ⟨0, 0, .leaf⟩ (fun v _ => fyes v) = .ok := by kernel_rfl
theorem says : SaysTrue Tryd.prog 13 := by
  obtain ⟨s, h⟩ := run_fastO run
  exact says_of compP fol (trueO_ok compP (fs := [16]) fun f hf => by
    have e : f = 16 := by simpa using hf
    subst e
    exact ⟨⟨_, get16⟩, W.says⟩) h
end K
end Go.Oct.Shop
