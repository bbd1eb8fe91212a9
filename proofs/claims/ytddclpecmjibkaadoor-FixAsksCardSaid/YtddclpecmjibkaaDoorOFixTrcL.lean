/- FixTracks: it answers true at all arguments. -/
import Derived.Test.YtddclpecmjibkaaDoorOFixGoeL
import Derived.Test.YtddclpecmjibkaaDoorOFixTrkW
set_option maxRecDepth 100000
set_option maxHeartbeats 8000000
set_option linter.unusedVariables false
set_option linter.unusedSimpArgs false
namespace Go.Oct.Fix
open Go.Oct
theorem ptsL_iff {f : Nat → Bool} {q : Span} : q ∈ ptsL f ↔ inSea q ∧ f (ix q) = true := by
  rw [ptsL_mem]
  constructor
  · rintro ⟨n, h1, h2, rfl⟩
    exact ⟨pt_sea h1, by rw [ix_pt]; exact h2⟩
  · rintro ⟨h1, h2⟩
    exact ⟨ix q, ix_lt h1, h2, (pt_ix h1).symm⟩
end Go.Oct.Fix
