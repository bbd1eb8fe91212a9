/- FixMoons: the law. -/
import Derived.Test.YtddclpecmjibkaaDoorOFixMooR
import Derived.Test.YtddclpecmjibkaaDoorOT3
set_option maxRecDepth 100000
set_option maxHeartbeats 2000000
set_option linter.unusedVariables false
set_option linter.unusedSimpArgs false
namespace Go.Oct.Fix
open Go.Oct
theorem FixMoons_ok (nl : Bool) (l : List Span) (lo hi : Int) {x : AV} (h : Slice eSpan (fun s => i64 s.lo ∧ i64 s.hi) x nl l) (_ : i64 lo) (_ : i64 hi) : ans prog O 7 [vl eSpan nl l, .agg [.int .i64 lo, .int .i64 hi]] = some (.bool true) := by
  have hx := h.len
  have h1 := Moon_ok nl l ⟨lo, hi⟩ (by omega)
  have h2 := MoonR_ok nl l ⟨lo, hi⟩ (by omega)
  have he : eSpan ⟨lo, hi⟩ = .agg [.int .i64 lo, .int .i64 hi] := rfl
  have he2 : eSpan (moonV l ⟨lo, hi⟩).1 = .agg [.int .i64 (moonV l ⟨lo, hi⟩).1.lo, .int .i64 (moonV l ⟨lo, hi⟩).1.hi] := rfl
  rw [he, he2] at h1 h2
  refine fn_of' pl get7 (oo (by decide)) rfl rfl ?_
  simp (disch := omega) [h1, h2, -Bool.exists_bool]
end Go.Oct.Fix
