/- FixMore: it answers true at all arguments. -/
import Derived.Test.YtddclpecmjibkaaDoorOFixHlpW
set_option maxRecDepth 100000
set_option maxHeartbeats 8000000
set_option linter.unusedVariables false
set_option linter.unusedSimpArgs false
namespace Go.Oct.Fix
open Go.Oct
/-- A log's snapshot, its steps being in an object. -/
theorem log_snap {E N : Span} {S : List Stp} {σ : AH} {o : Nat} {c : ACap} (hcel : σ.cel o = some (rowOf eStp S)) (hc : c = .op 10 ∨ c = .ex S.length) : Snap σ (.agg [.int .i64 E.lo, .int .i64 E.hi, .int .i64 N.lo, .int .i64 N.hi, .slice (some (o, 0)) S.length c]) [o] (eLog E N false S) := by
  refine ⟨?_, fun T hT => ?_⟩
  · show [AV.int .i64 E.lo, .int .i64 E.hi, .int .i64 N.lo, .int .i64 N.hi, .slice (some (o, 0)) S.length c].flatMap (idsV 7 σ.cel) = [o]
    have e : idsV 7 σ.cel (.slice (some (o, 0)) S.length c) = [o] := by
      show (match σ.cel o with | some cs => o :: cs.flatMap (idsV 6 σ.cel) | none => []) = _
      rw [hcel]
      have : (rowOf eStp S).flatMap (idsV 6 σ.cel) = [] := by
        rw [List.flatMap_eq_nil_iff]
        intro x hx
        exact (flat_row flatStp S x hx 5 _).1
      simp [this]
    simp only [List.flatMap_cons, List.flatMap_nil, e]
    rfl
  · have hce : σ.celOf T o = some (rowOf eStp S) := by
      unfold AH.celOf
      rw [if_pos (by simpa using hT o (by simp)), hcel]
    have := fz_whole encStp flatStp (f := σ.celOf T) (o := o) (xs := S) (c := c) hce hc 5
    show AV.agg [AV.int .i64 E.lo, .int .i64 E.hi, .int .i64 N.lo, .int .i64 N.hi, fzV 7 (σ.celOf T) (.slice (some (o, 0)) S.length c)] = _
    rw [this]
    rfl
end Go.Oct.Fix
