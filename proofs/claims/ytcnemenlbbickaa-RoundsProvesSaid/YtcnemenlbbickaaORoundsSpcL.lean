/- The specification's Spans and Closes. -/
import Derived.Test.YtcnemenlbbickaaORoundsSpcS
import Derived.Test.YtcnemenlbbickaaORoundsSpcK
set_option maxRecDepth 100000
set_option maxHeartbeats 8000000
set_option linter.unusedVariables false
set_option linter.unusedSimpArgs false
namespace Go.Oct.Rounds
open Go.Oct
inductive SSpV (T : Int) (C : List Bool) (A : List An) : AV → Prop
  | bad : ¬ okNet T C A → SSpV T C A (.tuple [vl eSpan true [], .int .i64 60])
  | none : okNet T C A → Proved T C A → SSpV T C A (.tuple [vl eSpan true [], .int .i64 4])
  | ok (N : Nat) (out : List Span) : T = N → okNet T C A → SpI N C A (fun _ _ => True) out → SSpV T C A (.tuple [vl eSpan false out, .int .i64 0])
end Go.Oct.Rounds
