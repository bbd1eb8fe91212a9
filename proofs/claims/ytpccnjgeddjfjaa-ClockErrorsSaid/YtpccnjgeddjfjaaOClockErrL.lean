/- ClockErrors: what its row asks. -/
import Derived.Test.YtpccnjgeddjfjaaOClockErr2
import Derived.Test.YtpccnjgeddjfjaaOT3
set_option maxRecDepth 100000
set_option linter.unusedVariables false
namespace Go.Oct.Clock
open Go.Oct
theorem ClockErrors_ok (nT nR : Bool) (T : List Int) (R : List Span) (a e : Span) (nD : Bool) (D : List Span) (nA nB : Bool) (A : List Int) (g f : Int) (B : List Int) {x0 x1 x2 x3 x4 : AV}
    (h0 : Slice (AV.int .i64) i64 x0 nT T) (h1 : Slice eSpan (fun s => i64 s.lo ∧ i64 s.hi) x1 nR R) (h2 : Slice eSpan (fun s => i64 s.lo ∧ i64 s.hi) x2 nD D) (h3 : Slice (AV.int .i64) i64 x3 nA A) (h4 : Slice (AV.int .i64) i64 x4 nB B) :
    ans prog O 4 [eClk nT nR T R a e, vl eSpan nD D, eTru nA nB A g f B] = some (.bool true) := by
  have := h0.len; have := h1.len; have := h2.len; have := h3.len; have := h4.len
  exact ClockErrors_main nT nR nD nA nB T R a e D A g f B (by omega) (by omega) (by omega) (by omega) (by omega)
end Go.Oct.Clock
