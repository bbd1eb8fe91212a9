/- The lunar distance, plain: the row that has a distance that was seen. -/
import Derived.Test.YtddkghgfbhhcdaaOCryLitP
set_option maxRecDepth 100000
set_option maxHeartbeats 2000000
set_option linter.unusedVariables false
set_option linter.unusedSimpArgs false
namespace Go.Oct.Cry.Fx
open Go.Oct
theorem moon_row {l : List Span} (h : okTab l) {s : Span} {k : Nat} (hk : k < l.length) (h1 : s.lo ≤ (nth l k).hi) (h2 : (nth l k).hi ≤ s.hi) : Met l s (l.length - 1) (nth l k).lo := by
  have hl := h.1
  by_cases hk2 : k + 1 < l.length
  · have hr := tab_rise h hk2
    have a1 := Int.mul_le_mul_of_nonneg_right h1 (show 0 ≤ (nth l (k + 1)).lo - (nth l k).lo by omega)
    have a2 := Int.mul_le_mul_of_nonneg_right h2 (show 0 ≤ (nth l (k + 1)).lo - (nth l k).lo by omega)
    refine ⟨k, by omega, ⟨Int.le_refl _, by omega⟩, ?_⟩
    unfold hit dist
    rw [Int.sub_self, Int.mul_zero, Int.add_zero]
    exact ⟨a1, a2⟩
  · obtain ⟨j, rfl⟩ : ∃ j, k = j + 1 := ⟨k - 1, by omega⟩
    have hr := tab_rise h hk
    have a1 := Int.mul_le_mul_of_nonneg_right h1 (show 0 ≤ (nth l (j + 1)).lo - (nth l j).lo by omega)
    have a2 := Int.mul_le_mul_of_nonneg_right h2 (show 0 ≤ (nth l (j + 1)).lo - (nth l j).lo by omega)
    refine ⟨j, by omega, ⟨by omega, Int.le_refl _⟩, ?_⟩
    unfold hit dist
    rw [Int.sub_self, Int.mul_zero, Int.zero_add]
    exact ⟨a1, a2⟩
/-- A row that has a distance that was seen: the moon tells a span with its time. -/
theorem moon_tells {l : List Span} (h : okTab l) {s : Span} {k : Nat} (hk : k < l.length) (h1 : s.lo ≤ (nth l k).hi) (h2 : (nth l k).hi ≤ s.hi) : ∃ x, out l s (l.length - 1) = some x ∧ x.lo ≤ (nth l k).lo ∧ (nth l k).lo ≤ x.hi := by
  have hl := h.1
  exact (moon_met h (tab_le2 h (Nat.zero_le k) hk) (tab_le2 h (show k ≤ l.length - 1 by omega) (by omega))).1 (moon_row h hk h1 h2)
end Go.Oct.Cry.Fx
