/- A function without arguments answers yes: its run, in the kernel, where what works() answers is known. -/
import Derived.Test.YtddclpecmjibkaaDoorOFixW
import Derived.Test.YtddclpecmjibkaaDoorOF
set_option maxRecDepth 1000000
set_option maxHeartbeats 100000000
namespace Go.Oct.Fix
open Go.Proofs
namespace K
theorem run : farun1 prog (farunO prog [26] 4000) 4000 (.fn 16) [] ⟨0, 0, .leaf⟩ (fun v _ => fyes v) = .ok := by kernel_rfl
theorem says : SaysTrue Tryd.prog 16 := by
  obtain ⟨s, h⟩ := run_fastO run
  exact says_of compP fol (trueO_ok compP (fs := [26]) fun f hf => by
    have e : f = 26 := by simpa using hf
    subst e
    exact ⟨⟨_, get26⟩, W.says⟩) h
end K
end Go.Oct.Fix
