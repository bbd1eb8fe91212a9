/- The law of the order. -/
import Derived.Test.YtpgjndgpackffaaDoorOShopEarP
import Derived.Test.YtpgjndgpackffaaDoorOShopBui
import Derived.Test.YtpgjndgpackffaaDoorOShopStoF
set_option maxRecDepth 100000
set_option maxHeartbeats 8000000
set_option linter.unusedVariables false
set_option linter.unusedSimpArgs false
namespace Go.Oct.Shop
open Go.Oct
theorem PlanBad_ok (nl : Bool) (l : List Pc) (men : Int) (hx : l.length < 2 ^ 62) (h : askV l men ≠ 0) : ans prog O 26 [vl ePc nl l, .int .i64 men] = some (.tuple [.vsl true [], .int .i64 (askV l men)]) := by
  refine fn_of' pl get26 (oo (by decide)) rfl rfl ?_
  simp (disch := omega) [h]
theorem ShopEarly_ok (nl : Bool) (l : List Pc) (men : Int) (nP : Bool) (P : Plan) {x y : AV} (h : Slice ePc pcOK x nl l) (hP : Slice eRow rowOK y nP P) :
    ans prog O 7 [vl ePc nl l, .int .i64 men, vl eRow nP P] = some (.bool true) := by
  have hx := h.len
  have hx2 := hP.len
  have hrl : ∀ d, d < P.length → (row P d).length < 2 ^ 62 := fun d hd => rows_len hP.good hd
  have h2 := Fits_ok nl nP l men P (by omega) (by omega) hrl
  have h3 := Least_ok nl l men (by omega)
  refine fn_of' pl get7 (oo (by decide)) rfl rfl ?_
  by_cases ha : askV l men = 0
  · obtain ⟨ho, hm⟩ := askV_zero ha
    have hl := ho.1
    obtain ⟨_, ⟨Q, rfl, hQ, hQb⟩, h1⟩ := Plan_ok nl l men ho hm
    have hlen := plan_len ho hm.1 hQ hQb
    have hls := lsV_ok ho hm.1 hm.2
    have hb1 := built_ok nl nP l men P ho (by omega) hrl
    have hQ12 := (lstTo_bd ho hm.1 (height l) (height_bd ho).2)
    have hb2 := built_ok nl false l men Q ho (by unfold lst at hlen; omega) (fun d hd => by have := (hQ.day d hd).1; omega)
    obtain ⟨j, j1, j2, j3, j4, j5⟩ := lst_spec ho hm.1
    have hother : okPlan l men P → (lst l men).1 ≤ P.length := fun hp => by rw [j3]; exact hp.least ho hm.1 j1
    have d1 : decide (okPlan l men Q) = true := decide_eq_true hQ
    rw [d1] at hb2
    have j0 : ¬ (j : Int) < 0 := by omega
    rw [ha, hls] at h3
    rw [ha] at h2
    by_cases hp : okPlan l men P
    rotate_left
    simp (disch := omega) [h1, h2, h3, hb1, hb2, ha, ho, hm, hlen, hp, j2, j0, -Bool.exists_bool]
    rotate_left
    have hge := hother hp
    have hge' : ¬ (P.length : Int) < (lst l men).1 := by omega
    simp (disch := omega) [h1, h2, h3, hb1, hb2, ha, ho, hm, hlen, hp, hge, hge', j2, j0, -Bool.exists_bool]
    all_goals
      refine lp_loop pl (fun k fr σ => ∃ i : Nat, i + k = l.length + 1 ∧ fr = ⟨[(0, vl ePc nl l), (1, .int .i64 men), (9, .int .i64 (lst l men).1), (10, .int .i64 j), (14, .int .i64 i)], []⟩ ∧ σ.lim = 0) ⟨l.length + 1, 0, by omega, rfl, rfl⟩ ?_
      rintro k _ σ ⟨i, hi, rfl, hl0⟩
      by_cases hil : i ≤ l.length
      · simp (disch := omega) [Und, hl0, hil, -Bool.exists_bool]
        refine lp_loop pl (fun k fr σ => ∃ q : Nat, q + k = l.length ∧ fr = ⟨[(0, vl ePc nl l), (1, .int .i64 men), (9, .int .i64 (lst l men).1), (10, .int .i64 j), (14, .int .i64 i), (15, .int .i64 (cnt (fun p => decide (i < lev l p)) q)), (16, .int .i64 q)], []⟩ ∧ σ.lim = 0) ⟨l.length, 0, by omega, rfl, hl0⟩ ?_
        clear hl0
        rintro k2 _ σ ⟨q, hq, rfl, hl0⟩
        have hc := cnt_le (fun p => decide (i < lev l p)) q
        by_cases hql : q < l.length
        · by_cases hlv : i < lev l q
          · have hs : cnt (fun p => decide (i < lev l p)) (q + 1) = cnt (fun p => decide (i < lev l p)) q + 1 := by simp [cnt, hlv]
            simp (disch := omega) [Und, hl0, hql, ho, hlv, -Bool.exists_bool]
            exact ⟨k2 - 1, by omega, q + 1, by omega, by rw [hs]; omega, by omega⟩
          · have hs : cnt (fun p => decide (i < lev l p)) (q + 1) = cnt (fun p => decide (i < lev l p)) q := by simp [cnt, hlv]
            simp (disch := omega) [Und, hl0, hql, ho, hlv, -Bool.exists_bool]
            exact ⟨k2 - 1, by omega, q + 1, by omega, by rw [hs], by omega⟩
        · obtain rfl : q = l.length := by omega
          have hab : cnt (fun p => decide (i < lev l p)) l.length = above l i := cnt_congr fun p _ => by simp
          by_cases hih : i < height l
          · have hq : ((above l i : Int) + men - 1) / men = bnd l men i - i := by unfold bnd; omega
            have hpos := above_pos ho hih
            have hbb := bnd_bd ho (men := men) hm.1 (j := i) (by omega)
            have b5 := j5 i hih
            have e1 : (i : Int) + (bnd l men i - i) = bnd l men i := by omega
            have e2 : ¬ above l i = 0 := by omega
            have e3 : 0 < above l i := by omega
            have e4 : ¬ (lst l men).1 < bnd l men i := by omega
            rcases Nat.lt_trichotomy i j with hij | hij | hij
            · have b4 := j4 i hij
              have e5 : ¬ bnd l men i = (lst l men).1 := by omega
              have e6 : ¬ i = j := by omega
              simp (disch := omega) [Und, hl0, hab, hq, e1, e2, e3, e4, e5, e6, hij, -Bool.exists_bool]
              exact ⟨by omega, fun _ => ⟨k - 1, by omega, i + 1, by omega, by omega⟩⟩
            · subst hij
              simp (disch := omega) [Und, hl0, hab, hq, e1, e2, e3, e4, j3, -Bool.exists_bool]
              exact ⟨k - 1, by omega, i + 1, by omega, by omega⟩
            · have e5 : ¬ i < j := by omega
              have e6 : ¬ i = j := by omega
              simp (disch := omega) [Und, hl0, hab, hq, e1, e2, e3, e4, e5, e6, -Bool.exists_bool]
              exact ⟨fun h => absurd h (by omega), fun _ => ⟨k - 1, by omega, i + 1, by omega, by omega⟩⟩
          · have hz := above_zero (l := l) (j := i) (by omega)
            have e5 : ¬ i ≤ j := by omega
            have hz2 : ((0 : Int) + men - 1) / men = 0 := by
              apply Int.ediv_eq_zero_of_lt <;> omega
            simp (disch := omega) [Und, hl0, hab, hz, hz2, e5, -Bool.exists_bool]
            first
            | exact ⟨k - 1, by omega, i + 1, by omega, by omega⟩
            | exact ⟨by omega, fun _ => ⟨k - 1, by omega, i + 1, by omega, by omega⟩⟩
            | exact ⟨by omega, k - 1, by omega, i + 1, by omega, by omega⟩
            | (trace_state; fail)
      · obtain rfl : i = l.length + 1 := by omega
        simp (disch := omega) [Und, hl0, hil, -Bool.exists_bool]
        intro hc
        omega
  · have h1 := PlanBad_ok nl l men (by omega) ha
    have e : lsV l men = (0, 0) := by unfold lsV; rw [if_neg ha]
    simp (disch := omega) [h1, h2, h3, ha, e, -Bool.exists_bool]
end Go.Oct.Shop
