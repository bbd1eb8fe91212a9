/- ShopEnough: the law. -/
import Derived.Test.YtpgjndgpackffaaGreatDoorOPlansMen
set_option maxRecDepth 100000
set_option maxHeartbeats 4000000
set_option linter.unusedVariables false
set_option linter.unusedSimpArgs false
namespace Go.Oct.Plans
open Go.Oct
def lsV (l : List Pc) (men : Int) : Int × Int := if askV l men = 0 then lst l men else (0, 0)
@[simp] theorem Least_ok (nl : Bool) (l : List Pc) (men : Int) (hx : l.length < 2 ^ 62) : ans prog O 11 [vl ePc nl l, .int .i64 men] = some (.tuple [.int .i64 (lsV l men).1, .int .i64 (lsV l men).2, .int .i64 (askV l men)]) := by
  refine fn_of' pl get11 (oo (by decide)) rfl rfl ?_
  by_cases h : askV l men = 0
  · have h' := h
    unfold askV at h'
    have ho : okOrd l := Decidable.byContradiction fun hn => by rw [if_neg hn] at h'; omega
    rw [if_pos ho] at h'
    have hm : 1 ≤ men ∧ men ≤ 12 := Decidable.byContradiction fun hn => by rw [if_neg hn] at h'; omega
    have e : lsV l men = lst l men := by unfold lsV; rw [if_pos h]
    simp (disch := omega) [h, pieces_ok, ho, e]
  · have e : lsV l men = (0, 0) := by unfold lsV; rw [if_neg h]
    simp (disch := omega) [h, e]
theorem askV_ok {l : List Pc} (h : okOrd l) {m : Int} (h1 : 1 ≤ m) (h2 : m ≤ 12) : askV l m = 0 := by
  unfold askV; rw [if_pos h, if_pos ⟨h1, h2⟩]
theorem lsV_ok {l : List Pc} (h : okOrd l) {m : Int} (h1 : 1 ≤ m) (h2 : m ≤ 12) : lsV l m = lst l m := by
  unfold lsV; rw [if_pos (askV_ok h h1 h2)]
end Go.Oct.Plans
