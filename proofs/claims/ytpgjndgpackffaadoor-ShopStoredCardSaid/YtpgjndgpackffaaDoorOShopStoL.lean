/- The law of the store. -/
import Derived.Test.YtpgjndgpackffaaDoorOShopTak
import Derived.Test.YtpgjndgpackffaaDoorOShopBui
import Derived.Test.YtpgjndgpackffaaDoorOShopEno
set_option maxRecDepth 100000
set_option maxHeartbeats 8000000
set_option linter.unusedVariables false
set_option linter.unusedSimpArgs false
namespace Go.Oct.Shop
open Go.Oct
theorem Fits_ok (nl nP : Bool) (l : List Pc) (men : Int) (P : Plan) (hx : l.length < 2 ^ 62) (hP : P.length < 2 ^ 62) (hr : ∀ d, d < P.length → (row P d).length < 2 ^ 62) :
    ans prog O 28 [vl ePc nl l, .int .i64 men, vl eRow nP P] = some (.tuple [.bool (decide (askV l men = 0 ∧ okPlan l men P)), .int .i64 (askV l men)]) := by
  refine fn_of' pl get28 (oo (by decide)) rfl rfl ?_
  by_cases h : askV l men = 0
  · obtain ⟨ho, hm⟩ := askV_zero h
    have hf := fits_ok nl nP l men P ho hP hr
    by_cases hp : okPlan l men P
    · rw [decide_eq_true hp] at hf
      simp (disch := omega) [h, hf, hp]
    · rw [decide_eq_false hp] at hf
      simp (disch := omega) [h, hf, hp]
  · simp (disch := omega) [h]
theorem askV_not (l : List Pc) (men : Int) : askV l men ≠ 4 := by unfold askV; split <;> (try split) <;> omega
theorem ShopStored_ok (nl nP : Bool) (l : List Pc) (men : Int) (P : Plan) (nL : Bool) (s : St) (a c : Int) {x y z : AV} (h : Slice ePc pcOK x nl l) (hP : Slice eRow rowOK y nP P) (hL : Slice ePc pcOK z nL s.L) :
    ans prog O 10 [.agg [vl ePc nl l, .int .i64 men, vl eRow nP P], .agg [.int .i64 s.b, .int .i64 s.v, vl ePc nL s.L], .agg [.int .i64 a, .int .i64 c]] = some (.bool true) := by
  have hx := h.len
  have hx2 := hP.len
  have hx3 := hL.len
  have hrl : ∀ d, d < P.length → (row P d).length < 2 ^ 62 := fun d hd => rows_len hP.good hd
  obtain ⟨b, e, hv⟩ := begV_ex l men P s
  have h1 := Begins_ok nl nP nL l men P s (by omega) (by omega) hrl (by omega) hv
  have h2 := Fits_ok nl nP l men P (by omega) (by omega) hrl
  refine fn_of' pl get10 (oo (by decide)) rfl rfl ?_
  rcases hv with q1 | ⟨q1, q2⟩ | ⟨q1, q2, q3⟩ | ⟨q1, q2, q3, m, d, q4, q5, q6⟩ | ⟨q1, q2, q3, q4, _, q5⟩
  · have q2 := askV_not l men
    simp (disch := omega) [h1, h2, q1, q2]
  · simp (disch := omega) [h1, h2, q1, q2]
  · simp (disch := omega) [h1, h2, q1, q2]
  · obtain ⟨ho, hm⟩ := askV_zero q1
    have hb := built_ok nl nP l men P ho (by omega) hrl
    have hlen : ¬ (12 : Int) < s.L.length := by have := q3.1.2; omega
    have k1 : decide (okPlan l men P) = true := decide_eq_true q2
    have hnt := taken_never (t := 100000) q3 q4 q5 q6
    have ht := taken_ok nl nP nL l men P s 100000 ho q2 q3 (by omega) hrl (by omega)
    simp (disch := omega) [h1, h2, q1, q2, ho, hb, hlen, ht, hnt]
  · obtain ⟨ho, hm⟩ := askV_zero q1
    have hb := built_ok nl nP l men P ho (by omega) hrl
    have hlen : ¬ (12 : Int) < s.L.length := by have := q3.1.2; omega
    have hB1 := q5.nn
    have hB2 := q5.hi
    have ta : ∀ t : Int, 0 ≤ t ∧ t ≤ 200000 → ans prog O 35 [vl ePc nl l, vl eRow nP P, .agg [.int .i64 s.b, .int .i64 s.v, vl ePc nL s.L], .int .i64 t] = some (.bool (decide (b ≤ t))) := fun t ht => by
      have e1 : decide (tkTo l P s t P.length) = decide (b ≤ t) := decide_eq_decide.2 (taken_at q3 q4 q5 ht.1)
      rw [taken_ok nl nP nL l men P s t ho q2 q3 (by omega) hrl ht, e1]
    have t1 := ta b (by omega)
    have t2 := ta (b + a % 100) (by omega)
    have g1 : ¬ b < 0 := by omega
    have g2 : decide (b ≤ b) = true := by simp
    have g3 : decide (b ≤ b + a % 100) = true := decide_eq_true (by omega)
    rw [g2] at t1
    rw [g3] at t2
    have ta2 := ta
    clear ta
    by_cases hb0 : b = 0
    · subst hb0
      rw [Int.zero_add] at t2
      simp (maxSteps := 1000000) (disch := omega) [h1, h2, q1, q2, ho, hb, hlen, t1, t2]
    · have t3 := ta2 (b - 1) (by omega)
      have m1 := Int.emod_nonneg c (b := b) (by omega)
      have m2 := Int.emod_lt_of_pos c (b := b) (by omega)
      have t4 := ta2 (c % b) (by omega)
      have g4 : decide (b ≤ b - 1) = false := decide_eq_false (by omega)
      have g5 : decide (b ≤ c % b) = false := decide_eq_false (by omega)
      rw [g4] at t3
      rw [g5] at t4
      simp (maxSteps := 1000000) (disch := omega) [h1, h2, q1, q2, ho, hb, hlen, g1, t1, t2, t3, t4, hb0]
end Go.Oct.Shop
