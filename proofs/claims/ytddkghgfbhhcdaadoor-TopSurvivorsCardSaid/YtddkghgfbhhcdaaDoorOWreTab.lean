/- Tables of the moon: when they are valid. A row: its time (lo) and its distance (hi). -/
import Derived.Test.YtddkghgfbhhcdaaDoorOWreB0
set_option maxRecDepth 100000
set_option maxHeartbeats 2000000
set_option linter.unusedVariables false
set_option linter.unusedSimpArgs false
namespace Go.Oct.Wre.Fx
open Go.Oct
@[simp] theorem within_ok (n l h : Int) : ans prog O 147 [.int .i64 n, .int .i64 l, .int .i64 h] = some (.bool (decide (l ≤ n ∧ n ≤ h))) := by
  refine fn_of' pl get147 (oo (by decide)) rfl rfl ?_
  simp +contextual (disch := omega) []
def isSp (s : Span) (l h : Int) : Prop := l ≤ s.lo ∧ s.lo ≤ s.hi ∧ s.hi ≤ h
instance (s : Span) (l h : Int) : Decidable (isSp s l h) := by unfold isSp; infer_instance
@[simp] theorem spanned_ok (s : Span) (l h : Int) : ans prog O 107 [.agg [.int .i64 s.lo, .int .i64 s.hi], .int .i64 l, .int .i64 h] = some (.bool (decide (isSp s l h))) := by
  refine fn_of' pl get107 (oo (by decide)) rfl rfl ?_
  unfold isSp
  simp +contextual (disch := omega) []
  rw [Bool.eq_iff_iff]
  simp only [Bool.and_eq_true, decide_eq_true_eq, and_assoc]
  exact (@decide_eq_true_iff _ _).symm
def okRow (l : List Span) (i : Nat) : Prop := ((0 ≤ (nth l i).lo ∧ (nth l i).lo ≤ 100000) ∧ 0 ≤ (nth l i).hi ∧ (nth l i).hi ≤ 1000000) ∧
  (0 < i → (nth l (i - 1)).lo < (nth l i).lo ∧ (nth l (i - 1)).hi ≠ (nth l i).hi ∧ ((nth l 0).hi < (nth l 1).hi ↔ (nth l (i - 1)).hi < (nth l i).hi))
instance (l : List Span) (i : Nat) : Decidable (okRow l i) := by unfold okRow; infer_instance
def tabTo (l : List Span) (n : Nat) : Prop := (2 ≤ (l.length : Int) ∧ (l.length : Int) ≤ 12) ∧ ∀ i, i < n → okRow l i
instance (l : List Span) (n : Nat) : Decidable (tabTo l n) := by unfold tabTo; infer_instance
end Go.Oct.Wre.Fx
