/- Fits: the program's. -/
import Derived.Test.YtpgjndgpackffaaGreatDoorOPlansFit
import Derived.Test.YtpgjndgpackffaaGreatDoorOPlansMen
import Derived.Test.YtpgjndgpackffaaGreatDoorOT3
set_option maxRecDepth 100000
set_option maxHeartbeats 8000000
set_option linter.unusedVariables false
set_option linter.unusedSimpArgs false
namespace Go.Oct.Plans
open Go.Oct
theorem askV_zero {l : List Pc} {men : Int} (h : askV l men = 0) : okOrd l ∧ 1 ≤ men ∧ men ≤ 12 := by
  unfold askV at h
  have ho : okOrd l := Decidable.byContradiction fun hn => by rw [if_neg hn] at h; omega
  rw [if_pos ho] at h
  exact ⟨ho, Decidable.byContradiction fun hn => by rw [if_neg hn] at h; omega⟩
theorem rows_len {P : Plan} (h : ∀ r ∈ P, rowOK r) {d : Nat} (hd : d < P.length) : (row P d).length < 2 ^ 62 := by
  have := (h _ (nth_mem hd)).2.1
  unfold row
  omega
theorem Fits_ok (nl nP : Bool) (l : List Pc) (men : Int) (P : Plan) (hx : l.length < 2 ^ 62) (hP : P.length < 2 ^ 62) (hr : ∀ d, d < P.length → (row P d).length < 2 ^ 62) :
    ans prog O 9 [vl ePc nl l, .int .i64 men, vl eRow nP P] = some (.tuple [.bool (decide (askV l men = 0 ∧ okPlan l men P)), .int .i64 (askV l men)]) := by
  refine fn_of' pl get9 (oo (by decide)) rfl rfl ?_
  by_cases h : askV l men = 0
  · obtain ⟨ho, hm⟩ := askV_zero h
    have hf := fits_ok nl nP l men P ho hP hr
    by_cases hp : okPlan l men P
    · rw [decide_eq_true hp] at hf
      simp (disch := omega) [h, hf, hp]
    · rw [decide_eq_false hp] at hf
      simp (disch := omega) [h, hf, hp]
  · simp (disch := omega) [h]
end Go.Oct.Plans
