/- Numbers that a number chooses between two others. -/
import Derived.Test.YtddkghgfbhhcdaaOCryB0
set_option maxRecDepth 100000
set_option maxHeartbeats 2000000
set_option linter.unusedVariables false
set_option linter.unusedSimpArgs false
namespace Go.Oct.Cry
open Go.Oct
def chz (l h n : Int) : Int := if h ≤ l then l else l + n % (h - l + 1)
theorem chz_in {l h n : Int} (hl : l ≤ h) : l ≤ chz l h n ∧ chz l h n ≤ h := by
  unfold chz
  split
  · omega
  · have h1 := Int.emod_nonneg n (show h - l + 1 ≠ 0 by omega)
    have h2 := Int.emod_lt_of_pos n (show 0 < h - l + 1 by omega)
    omega
@[simp] theorem Chosen_ok (l h n : Int) (h1 : -1000000000 ≤ l) (h2 : h ≤ 1000000000) (h3 : l ≤ 1000000000) (h4 : -1000000000 ≤ h) : ans prog O 16 [.int .i64 l, .int .i64 h, .int .i64 n] = some (.int .i64 (chz l h n)) := by
  refine fn_of' pl get16 (oo (by decide)) rfl rfl ?_
  unfold chz
  by_cases hl : h ≤ l
  · rw [if_pos hl]
    simp (disch := omega) [hl]
  · rw [if_neg hl]
    have e1 := Int.emod_nonneg n (show h - l + 1 ≠ 0 by omega)
    have e2 := Int.emod_lt_of_pos n (show 0 < h - l + 1 by omega)
    have q1 : ¬ h - l + 1 < 1 := by omega
    simp (disch := omega) [hl, q1]
    try omega
def pick (b : List Int) (n : Int) : Int := nth b (n % (b.length : Int)).toNat
end Go.Oct.Cry
