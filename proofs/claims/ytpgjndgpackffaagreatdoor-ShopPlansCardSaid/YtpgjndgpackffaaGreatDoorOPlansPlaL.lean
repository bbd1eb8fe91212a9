/- The law of the plans. -/
import Derived.Test.YtpgjndgpackffaaGreatDoorOPlansEarP
import Derived.Test.YtpgjndgpackffaaGreatDoorOPlansFitR
import Derived.Test.YtpgjndgpackffaaGreatDoorOPlansStoF
set_option maxRecDepth 100000
set_option maxHeartbeats 1000000
set_option linter.unusedVariables false
set_option linter.unusedSimpArgs false
namespace Go.Oct.Plans
open Go.Oct
theorem LevelsR_ok (nl : Bool) (l : List Pc) (hx : l.length < 2 ^ 62) : ans prog O 5 [vl ePc nl l] = some (.tuple [if okOrd l then vs false (levI l) else .vsl true [], .int .i64 (if okOrd l then 0 else 100)]) := by
  refine fn_of' pl get5 (oo (by decide)) rfl rfl ?_
  by_cases h : okOrd l
  · simp (disch := omega) [h]
  · simp (disch := omega) [h]
theorem Levels_ok (nl : Bool) (l : List Pc) (hx : l.length < 2 ^ 62) : ans prog O 4 [vl ePc nl l] = some (.tuple [if okOrd l then vs (levI l).isEmpty (levI l) else .vsl true [], .int .i64 (if okOrd l then 0 else 100)]) := by
  by_cases h : okOrd l
  · rw [if_pos h, if_pos h]
    refine fn_of' pl get4 (oo (by decide)) rfl rfl ?_
    have hp := pieces_ok nl l h
    have hl := h.1
    simp (disch := omega) [h, hp, -Bool.exists_bool]
    refine lp_loop pl (fun k fr σ => ∃ (j : Nat) (v : AV), j + k = l.length ∧ fr = ⟨[(5, v), (14, vl eP5 false (pcsL l l.length)), (15, .int .i64 l.length), (16, .int .i64 j)], []⟩ ∧ σ.lim = 0 ∧ Buf 0 1 (AV.int .i64) σ v ((levI l).take j)) ⟨l.length, 0, .vsl true [], by omega, by simp, rfl, Buf.nil⟩ ?_
    rintro k _ σ ⟨j, v, hj, rfl, hl0, hb⟩
    by_cases hjl : j < l.length
    · simp (disch := omega) [Und, hl0, hjl, pcsL_nth, -Bool.exists_bool]
      generalize hτ : AH.set _ _ _ = τ
      have τl : τ.lim = 0 := by rw [← hτ]; exact hl0
      have τn : τ.next = σ.next + 1 := by rw [← hτ]; rfl
      have τg : ∀ i, i < σ.next → τ.get i = σ.get i := fun i h1 => by rw [← hτ, AH.get_set_other _ _ _ _ (by omega), AH.get_push_old _ _ _ (by omega)]
      rw [← τn]
      refine (hb.keep (σ' := τ) fun i _ h2 => τg i h2).push encI (by omega) (by omega) (lev l j : Int) (by simp only [topBytes]; rw [List.length_take, levI_len]; omega) rfl fun v' σ' h3 h4 => ?_
      have e : (levI l).take (j + 1) = (levI l).take j ++ [(lev l j : Int)] := by rw [take_succ_nth (by rw [levI_len]; exact hjl), levI_nth hjl]
      have h4l := h4.lim
      simp (disch := omega) [-Bool.exists_bool]
      exact ⟨k - 1, by omega, j + 1, by omega, v', ⟨rfl, by omega⟩, by omega, by rw [e]; exact h3⟩
    · obtain rfl : j = l.length := by omega
      rw [List.take_of_length_le (by simp)] at hb
      simp (disch := omega) [Und, hl0, -Bool.exists_bool]
      exact hb.fzI 5
  · rw [if_neg h, if_neg h]
    refine fn_of' pl get4 (oo (by decide)) rfl rfl ?_
    simp (disch := omega) [h]
theorem LeastR_ok (nl : Bool) (l : List Pc) (men : Int) (hx : l.length < 2 ^ 62) : ans prog O 12 [vl ePc nl l, .int .i64 men] = some (.tuple [.int .i64 (lsV l men).1, .int .i64 (lsV l men).2, .int .i64 (askV l men)]) := by
  refine fn_of' pl get12 (oo (by decide)) rfl rfl ?_
  by_cases h : askV l men = 0
  · obtain ⟨ho, hm⟩ := askV_zero h
    have e : lsV l men = lst l men := by unfold lsV; rw [if_pos h]
    simp (disch := omega) [h, ho, e]
  · have e : lsV l men = (0, 0) := by unfold lsV; rw [if_neg h]
    simp (disch := omega) [h, e]
theorem FitsR_ok (nl nP : Bool) (l : List Pc) (men : Int) (P : Plan) (hx : l.length < 2 ^ 62) (hP : P.length < 2 ^ 62) (hr : ∀ d, d < P.length → (row P d).length < 2 ^ 62) :
    ans prog O 10 [vl ePc nl l, .int .i64 men, vl eRow nP P] = some (.tuple [.bool (decide (askV l men = 0 ∧ okPlan l men P)), .int .i64 (askV l men)]) := by
  refine fn_of' pl get10 (oo (by decide)) rfl rfl ?_
  by_cases h : askV l men = 0
  · obtain ⟨ho, hm⟩ := askV_zero h
    have hf := fitsR_ok nl nP l men P ho hP hr
    by_cases hp : okPlan l men P
    · rw [decide_eq_true hp] at hf
      simp (disch := omega) [h, hf, hp]
    · rw [decide_eq_false hp] at hf
      simp (disch := omega) [h, hf, hp]
  · simp (disch := omega) [h]
theorem PlanBad_ok (nl : Bool) (l : List Pc) (men : Int) (hx : l.length < 2 ^ 62) (h : askV l men ≠ 0) : ans prog O 13 [vl ePc nl l, .int .i64 men] = some (.tuple [.vsl true [], .int .i64 (askV l men)]) := by
  refine fn_of' pl get13 (oo (by decide)) rfl rfl ?_
  simp (disch := omega) [h]
theorem ShopPlans_ok (nl : Bool) (l : List Pc) (men : Int) (nP : Bool) (P : Plan) {x y : AV} (h : Slice ePc pcOK x nl l) (hP : Slice eRow rowOK y nP P) :
    ans prog O 3 [vl ePc nl l, .int .i64 men, vl eRow nP P] = some (.bool true) := by
  have hx := h.len
  have hx2 := hP.len
  have hrl : ∀ d, d < P.length → (row P d).length < 2 ^ 62 := fun d hd => rows_len hP.good hd
  have a1 := Levels_ok nl l (by omega)
  have a2 := LevelsR_ok nl l (by omega)
  have a3 := Fits_ok nl nP l men P (by omega) (by omega) hrl
  have a4 := FitsR_ok nl nP l men P (by omega) (by omega) hrl
  have a5 := Least_ok nl l men (by omega)
  have a6 := LeastR_ok nl l men (by omega)
  have hsl := Same_ok (levI l).isEmpty false (levI l) (levI l) (by simp; omega)
  simp only [decide_true] at hsl
  refine fn_of' pl get3 (oo (by decide)) rfl rfl ?_
  by_cases ha : askV l men = 0
  · obtain ⟨ho, hm⟩ := askV_zero ha
    have hl := ho.1
    obtain ⟨_, ⟨Q, rfl, hQ, hQb⟩, h1⟩ := Plan_ok nl l men ho hm
    have hlen := plan_len ho hm.1 hQ hQb
    have hls := lsV_ok ho hm.1 hm.2
    have hQ12 := (lstTo_bd ho hm.1 (height l) (height_bd ho).2)
    have b1 := FitsR_ok nl false l men Q (by omega) (by unfold lst at hlen; omega) (fun d hd => by have := (hQ.day d hd).1; omega)
    rw [decide_eq_true ⟨ha, hQ⟩] at b1
    rw [if_pos ho, if_pos ho] at a1 a2
    simp (disch := omega) [a1, a2, hsl, a3, a4, a5, a6, b1, h1, ha, ho, hls, hlen, -Bool.exists_bool]
  · have h1 := PlanBad_ok nl l men (by omega) ha
    have e : lsV l men = (0, 0) := by unfold lsV; rw [if_neg ha]
    by_cases ho : okOrd l
    · rw [if_pos ho, if_pos ho] at a1 a2
      simp (disch := omega) [a1, a2, hsl, a3, a4, a5, a6, h1, ha, ho, e, -Bool.exists_bool]
    · rw [if_neg ho, if_neg ho] at a1 a2
      have hs := Same_ok true true [] [] (by simp)
      simp [vs, vl] at hs
      simp (disch := omega) [a1, a2, hsl, a3, a4, a5, a6, h1, ha, ho, e, hs, -Bool.exists_bool]
end Go.Oct.Plans
