/- Cones: the specification's. -/
import Derived.Test.YtddkghgfbhhcdaaOCryCon
set_option maxRecDepth 100000
set_option maxHeartbeats 2000000
set_option linter.unusedVariables false
set_option linter.unusedSimpArgs false
namespace Go.Oct.Cry
open Go.Oct
noncomputable def coneV (T : List Int) (R : List Span) (a e : Span) (D : List Span) : List Span × Int := if askE T R a e D = 0 then (cones T R a e D D.length, 0) else ([], askE T R a e D)
theorem ask0 {T : List Int} {R : List Span} {a e : Span} {D : List Span} (h0 : askE T R a e D = 0) : okClk T R a e ∧ okDays T D := by
  unfold askE at h0
  split at h0
  · split at h0
    · exact ⟨by assumption, by assumption⟩
    · cases h0
  · cases h0
end Go.Oct.Cry
