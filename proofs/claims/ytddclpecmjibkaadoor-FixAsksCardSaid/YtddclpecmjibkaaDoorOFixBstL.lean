/- FixBest: it answers true at all arguments. -/
import Derived.Test.YtddclpecmjibkaaDoorOFixNxtW
import Derived.Test.YtddclpecmjibkaaDoorOFixHlpW
set_option maxRecDepth 100000
set_option maxHeartbeats 8000000
set_option linter.unusedVariables false
set_option linter.unusedSimpArgs false
namespace Go.Oct.Fix
open Go.Oct
def askOK (x : Ask) : Prop := i64 x.a ∧ i64 x.b ∧ i64 x.w
theorem inv_asks {x : AV} (h : CellIs (.sl true [.int .i64, .int .i64, .int .i64]) x) : ∃ nl xs, Slice eAsk askOK x nl xs := by
  refine h.inv_sl fun cs hc => ?_
  obtain ⟨c1, _, rfl, h1, hc⟩ := hc.uncons
  obtain ⟨c2, _, rfl, h2, hc⟩ := hc.uncons
  obtain ⟨c3, rfl, h3⟩ := hc.one
  obtain ⟨n1, rfl, k1⟩ := h1.inv_int
  obtain ⟨n2, rfl, k2⟩ := h2.inv_int
  obtain ⟨n3, rfl, k3⟩ := h3.inv_int
  exact ⟨⟨n1, n2, n3⟩, rfl, k1, k2, k3⟩
end Go.Oct.Fix
