/- ShopEnough: the law. -/
import Derived.Test.YtpgjndgpackffaaDoorOShopMen
set_option maxRecDepth 100000
set_option maxHeartbeats 4000000
set_option linter.unusedVariables false
set_option linter.unusedSimpArgs false
namespace Go.Oct.Shop
open Go.Oct
def lsV (l : List Pc) (men : Int) : Int × Int := if askV l men = 0 then lst l men else (0, 0)
@[simp] theorem Least_ok (nl : Bool) (l : List Pc) (men : Int) (hx : l.length < 2 ^ 62) : ans prog O 27 [vl ePc nl l, .int .i64 men] = some (.tuple [.int .i64 (lsV l men).1, .int .i64 (lsV l men).2, .int .i64 (askV l men)]) := by
  refine fn_of' pl get27 (oo (by decide)) rfl rfl ?_
  by_cases h : askV l men = 0
  · have h' := h
    unfold askV at h'
    have ho : okOrd l := Decidable.byContradiction fun hn => by rw [if_neg hn] at h'; omega
    rw [if_pos ho] at h'
    have hm : 1 ≤ men ∧ men ≤ 12 := Decidable.byContradiction fun hn => by rw [if_neg hn] at h'; omega
    have e : lsV l men = lst l men := by unfold lsV; rw [if_pos h]
    simp (disch := omega) [h, pieces_ok, ho, e]
  · have e : lsV l men = (0, 0) := by unfold lsV; rw [if_neg h]
    simp (disch := omega) [h, e]
@[simp] theorem sound_ok (nl : Bool) (l : List Pc) (hx : l.length < 2 ^ 62) : ans prog O 29 [vl ePc nl l] = some (.bool (decide (okOrd l))) := by
  refine fn_of' pl get29 (oo (by decide)) rfl rfl ?_
  by_cases h : okOrd l
  · have hl := h.1
    simp (disch := omega) [h, hl, -Bool.exists_bool]
    refine lp_loop pl (fun k fr σ => ∃ i : Nat, i + k = l.length ∧ fr = ⟨[(0, vl ePc nl l), (3, .bool true), (4, .int .i64 i)], []⟩ ∧ σ.lim = 0) ⟨l.length, 0, by omega, rfl, rfl⟩ ?_
    rintro k _ σ ⟨i, hi, rfl, hl0⟩
    by_cases hil : i < l.length
    · have hp := (h.2 i hil).1
      simp (disch := omega) [Und, hl0, hil, -Bool.exists_bool]
      refine ⟨k - 1, by omega, i + 1, by omega, ?_, by omega⟩
      rcases hp with hp | hp
      · simp [hp]
      · simp [hp.1, hp.2]
    · obtain rfl : i = l.length := by omega
      simp (disch := omega) [Und, hl0, -Bool.exists_bool]
      exact h
  · simp (disch := omega) [h, -Bool.exists_bool]
    refine lp_loop pl (fun k fr σ => fr = ⟨[(0, vl ePc nl l), (3, .bool false), (4, .int .i64 0)], []⟩ ∧ σ.lim = 0) ⟨0, rfl, rfl⟩ ?_
    rintro k _ σ ⟨rfl, hl0⟩
    simp (disch := omega) [Und, hl0, -Bool.exists_bool]
    exact h
@[simp] theorem steps_ok (nl : Bool) (l : List Pc) (i : Nat) (h : okOrd l) (hi : i < l.length) : ans prog O 32 [vl ePc nl l, .int .i64 i] = some (.int .i64 (lev l i)) := by
  have hl := h.1
  refine fn_of' pl get32 (oo (by decide)) rfl rfl ?_
  simp (disch := omega) [-Bool.exists_bool]
  refine lp_loop pl (fun k fr σ => ∃ (p : Nat) (n : Int), p + k = l.length ∧ p < l.length ∧ n + lev l p = lev l i + 1 ∧ fr = ⟨[(0, vl ePc nl l), (1, .int .i64 p), (5, .int .i64 n)], []⟩ ∧ σ.lim = 0)
    ⟨l.length - i, i, 1, by omega, hi, by omega, rfl, rfl⟩ ?_
  rintro k _ σ ⟨p, n, hp, hpl, hn, rfl, hl0⟩
  have h1 := lev_in h hi
  have h2 := lev_in h hpl
  by_cases he : (nth l p).into = -1
  · have e := lev_end h hpl he
    simp (disch := omega) [Und, hl0, hpl, he, -Bool.exists_bool]
    omega
  · have e := lev_into h hpl he
    obtain ⟨i1, i2, i3⟩ := into_lt h hpl he
    simp (disch := omega) [Und, hl0, hpl, he, -Bool.exists_bool]
    refine ⟨l.length - (nth l p).into.toNat, by omega, (nth l p).into.toNat, by omega, by omega, ⟨by omega, i3.symm⟩⟩
theorem askV_ok {l : List Pc} (h : okOrd l) {m : Int} (h1 : 1 ≤ m) (h2 : m ≤ 12) : askV l m = 0 := by
  unfold askV; rw [if_pos h, if_pos ⟨h1, h2⟩]
theorem lsV_ok {l : List Pc} (h : okOrd l) {m : Int} (h1 : 1 ≤ m) (h2 : m ≤ 12) : lsV l m = lst l m := by
  unfold lsV; rw [if_pos (askV_ok h h1 h2)]
end Go.Oct.Shop
