/- ClockCones: what its row asks. -/
import Derived.Test.YtpccnjgeddjfjaaOClockConW
import Derived.Test.YtpccnjgeddjfjaaOT3
set_option maxRecDepth 100000
set_option linter.unusedVariables false
namespace Go.Oct.Clock
open Go.Oct
theorem ClockCones_ok (nT nR : Bool) (T : List Int) (R : List Span) (a e : Span) (nD : Bool) (D : List Span) (t d : Int) {x0 x1 x2 : AV}
    (h0 : Slice (AV.int .i64) i64 x0 nT T) (h1 : Slice eSpan (fun s => i64 s.lo ∧ i64 s.hi) x1 nR R) (h2 : Slice eSpan (fun s => i64 s.lo ∧ i64 s.hi) x2 nD D) (h3 : i64 t) (h4 : i64 d) :
    ans prog O 3 [eClk nT nR T R a e, vl eSpan nD D, .agg [.int .i64 t, .int .i64 d]] = some (.bool true) := by
  have := h0.len; have := h1.len; have := h2.len
  exact ClockCones_main nT nR nD T R a e D t d (by omega) (by omega) (by omega)
end Go.Oct.Clock
