/- ClockHolds. -/
import Derived.Test.YtpccnjgeddjfjaaOClockHol
import Derived.Test.YtpccnjgeddjfjaaOT3
set_option maxRecDepth 100000
set_option maxHeartbeats 2000000
set_option linter.unusedVariables false
set_option linter.unusedSimpArgs false
namespace Go.Oct.Clock
open Go.Oct
theorem nth_errs {T A : List Int} {g f : Int} {B : List Int} {n i : Nat} (h : i < n) : nth (errs T A g f B n) i = accE T A g f B (i + 1) := by
  have h2 := nth_get? (xs := errs T A g f B n) (i := i) (by rw [errs_len]; exact h)
  unfold errs at h2 ⊢
  rw [List.getElem?_map, List.getElem?_range h] at h2
  simpa using h2.symm
theorem nth_cones {T : List Int} {R : List Span} {a e : Span} {D : List Span} {n i : Nat} (h : i < n) : nth (cones T R a e D n) i = coneAt T R a e D (i + 1) := by
  have h2 := nth_get? (xs := cones T R a e D n) (i := i) (by rw [cones_len]; exact h)
  unfold cones at h2 ⊢
  rw [List.getElem?_map, List.getElem?_range h] at h2
  simpa using h2.symm
end Go.Oct.Clock
