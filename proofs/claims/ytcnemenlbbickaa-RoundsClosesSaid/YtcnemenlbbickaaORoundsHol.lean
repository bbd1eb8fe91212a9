/- Nets: Holds of the program. -/
import Derived.Test.YtcnemenlbbickaaORoundsLw
set_option maxRecDepth 100000
set_option maxHeartbeats 8000000
set_option linter.unusedVariables false
set_option linter.unusedSimpArgs false
namespace Go.Oct.Rounds
open Go.Oct
@[simp] theorem least_ok (a b : Int) : ans prog O 73 [.agg [.int .i64 a, .int .i64 b]] = some (.int .i64 a) := by
  refine fn_of' pl get73 (oo (by decide)) rfl rfl ?_
  simp (disch := omega) [-Bool.exists_bool]
@[simp] theorem most_ok (a b : Int) : ans prog O 72 [.agg [.int .i64 a, .int .i64 b]] = some (.int .i64 b) := by
  refine fn_of' pl get72 (oo (by decide)) rfl rfl ?_
  simp (disch := omega) [-Bool.exists_bool]
@[simp] theorem proved_ok (s : Bool) : ans prog O 59 [.bool s] = some (.agg [.func (.func (bif s then 72 else 73)) [] [], .func (.func (bif s then 73 else 72)) [] []]) := by
  refine fn_of' pl get59 (oo (by decide)) rfl rfl ?_
  cases s <;> simp (disch := omega) [Und, -Bool.exists_bool]
theorem cHi_app (A : List An) (a : An) (P Q : List Int) : cHi (A ++ [a]) P Q = cHi A P Q + (if sideP P Q a = 1 then a.hi else if sideP P Q a = -1 then -a.lo else 0) := by
  unfold cHi
  induction A with
  | nil => simp
  | cons b A ih => simp only [List.cons_append, List.foldr_cons, ih]; omega
theorem cLo_app (A : List An) (a : An) (P Q : List Int) : cLo (A ++ [a]) P Q = cLo A P Q + (if sideP P Q a = 1 then a.lo else if sideP P Q a = -1 then -a.hi else 0) := by
  unfold cLo
  induction A with
  | nil => simp
  | cons b A ih => simp only [List.cons_append, List.foldr_cons, ih]; omega
theorem c_bd (P Q : List Int) : ∀ A : List An, (∀ a ∈ A, 0 ≤ a.lo ∧ a.lo ≤ a.hi ∧ a.hi ≤ 648000) → (-648000 * (A.length : Int) ≤ cHi A P Q ∧ cHi A P Q ≤ 648000 * A.length) ∧ -648000 * (A.length : Int) ≤ cLo A P Q ∧ cLo A P Q ≤ 648000 * A.length
  | [], _ => by simp [cHi, cLo]
  | a :: A, h => by
    have ih := c_bd P Q A fun b hb => h b (List.mem_cons_of_mem _ hb)
    have h0 := h a (List.mem_cons_self ..)
    have e1 : cHi (a :: A) P Q = (if sideP P Q a = 1 then a.hi else if sideP P Q a = -1 then -a.lo else 0) + cHi A P Q := rfl
    have e2 : cLo (a :: A) P Q = (if sideP P Q a = 1 then a.lo else if sideP P Q a = -1 then -a.hi else 0) + cLo A P Q := rfl
    rw [e1, e2, List.length_cons]
    have hs : (if sideP P Q a = 1 then a.hi else if sideP P Q a = -1 then -a.lo else 0) ≤ 648000 ∧ -648000 ≤ (if sideP P Q a = 1 then a.hi else if sideP P Q a = -1 then -a.lo else 0) := by split <;> (try split) <;> omega
    have hs2 : (if sideP P Q a = 1 then a.lo else if sideP P Q a = -1 then -a.hi else 0) ≤ 648000 ∧ -648000 ≤ (if sideP P Q a = 1 then a.lo else if sideP P Q a = -1 then -a.hi else 0) := by split <;> (try split) <;> omega
    omega
end Go.Oct.Rounds
