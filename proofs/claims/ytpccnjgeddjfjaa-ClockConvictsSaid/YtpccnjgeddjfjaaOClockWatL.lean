/- ClockWatches: Jumped and Since return what the chapter says. -/
import Derived.Test.YtpccnjgeddjfjaaOClockWtJ
import Derived.Test.YtpccnjgeddjfjaaOT3
set_option maxRecDepth 100000
set_option maxHeartbeats 1000000
set_option linter.unusedVariables false
set_option linter.unusedSimpArgs false
namespace Go.Oct.Clock
open Go.Oct
theorem JumpedX_ok {nF nS : Bool} {w : Wt} (hw : ¬ okWt w) (hF : w.F.length < 2 ^ 62) (hS : w.S.length < 2 ^ 62) : ans prog O 28 [.agg (cWt nF nS w)] = some (.tuple [vs true [], .int .i64 73]) := by
  refine fn_of' pl get28 (oo (by decide)) rfl rfl ?_
  simp (disch := omega) [cWt, -Bool.exists_bool]
  refine watched_call hF hS rfl (fun h => absurd h hw) (fun _ σ mp s0 sn sg hle => ?_)
  simp (disch := omega) [cWt, s0, -Bool.exists_bool]
  rfl
theorem SinceX_ok {nF nS : Bool} {w : Wt} (hw : ¬ okWt w) (hF : w.F.length < 2 ^ 62) (hS : w.S.length < 2 ^ 62) : ans prog O 30 [.agg (cWt nF nS w)] = some (.tuple [.int .i64 0, .int .i64 73]) := by
  refine fn_of' pl get30 (oo (by decide)) rfl rfl ?_
  simp (disch := omega) [cWt, -Bool.exists_bool]
  refine watched_call hF hS rfl (fun h => absurd h hw) (fun _ σ mp s0 sn sg hle => ?_)
  simp (disch := omega) [cWt, s0, -Bool.exists_bool]
theorem jo_len {w : Wt} {L : List Int} (h : JumpOf w L) : L.length ≤ 8 := by
  obtain ⟨m, _, rfl, _⟩ := h
  exact jl_len w m 8
end Go.Oct.Clock
