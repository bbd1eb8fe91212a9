/- Logs: true tracks, as the program tells them. -/
import Derived.Test.YtddclpecmjibkaaDoorOFixBckW
set_option maxRecDepth 100000
set_option maxHeartbeats 8000000
set_option linter.unusedVariables false
set_option linter.unusedSimpArgs false
namespace Go.Oct.Fix
open Go.Oct
/-- A true track of a log. -/
abbrev TrueT (E N : Span) (S : List Stp) (t : List Span) : Prop := TrT E N (rns S) (sgs S S.length) (rns S).length t
open Classical in
noncomputable instance (E N : Span) (S : List Stp) (t : List Span) : Decidable (TrueT E N S t) := Classical.propDecidable _
end Go.Oct.Fix
