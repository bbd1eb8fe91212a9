/- ShopEnough: the law. -/
import Derived.Test.YtpgjndgpackffaaDoorOShopMen
set_option maxRecDepth 100000
set_option maxHeartbeats 4000000
set_option linter.unusedVariables false
set_option linter.unusedSimpArgs false
namespace Go.Oct.Shop
open Go.Oct
def lsV (l : List Pc) (men : Int) : Int × Int := if askV l men = 0 then lst l men else (0, 0)
@[simp] theorem Least_ok (nl : Bool) (l : List Pc) (men : Int) (hx : l.length < 2 ^ 62) : ans prog O 27 [vl ePc nl l, .int .i64 men] = some (.tuple [.int .i64 (lsV l men).1, .int .i64 (lsV l men).2, .int .i64 (askV l men)]) := by
  refine fn_of' pl get27 (oo (by decide)) rfl rfl ?_
  by_cases h : askV l men = 0
  · have h' := h
    unfold askV at h'
    have ho : okOrd l := Decidable.byContradiction fun hn => by rw [if_neg hn] at h'; omega
    rw [if_pos ho] at h'
    have hm : 1 ≤ men ∧ men ≤ 12 := Decidable.byContradiction fun hn => by rw [if_neg hn] at h'; omega
    have e : lsV l men = lst l men := by unfold lsV; rw [if_pos h]
    simp (disch := omega) [h, pieces_ok, ho, e]
  · have e : lsV l men = (0, 0) := by unfold lsV; rw [if_neg h]
    simp (disch := omega) [h, e]
@[simp] theorem sound_ok (nl : Bool) (l : List Pc) (hx : l.length < 2 ^ 62) : ans prog O 29 [vl ePc nl l] = some (.bool (decide (okOrd l))) := by
  refine fn_of' pl get29 (oo (by decide)) rfl rfl ?_
  by_cases h : okOrd l
  · have hl := h.1
    simp (disch := omega) [h, hl, -Bool.exists_bool]
    refine lp_loop pl (fun k fr σ => ∃ i : Nat, i + k = l.length ∧ fr = ⟨[(0, vl ePc nl l), (3, .bool true), (4, .int .i64 i)], []⟩ ∧ σ.lim = 0) ⟨l.length, 0, by omega, rfl, rfl⟩ ?_
    rintro k _ σ ⟨i, hi, rfl, hl0⟩
    by_cases hil : i < l.length
    · have hp := (h.2 i hil).1
      simp (disch := omega) [Und, hl0, hil, -Bool.exists_bool]
      refine ⟨k - 1, by omega, i + 1, by omega, ?_, by omega⟩
      rcases hp with hp | hp
      · simp [hp]
      · simp [hp.1, hp.2]
    · obtain rfl : i = l.length := by omega
      simp (disch := omega) [Und, hl0, -Bool.exists_bool]
      exact h
  · simp (disch := omega) [h, -Bool.exists_bool]
    refine lp_loop pl (fun k fr σ => fr = ⟨[(0, vl ePc nl l), (3, .bool false), (4, .int .i64 0)], []⟩ ∧ σ.lim = 0) ⟨0, rfl, rfl⟩ ?_
    rintro k _ σ ⟨rfl, hl0⟩
    simp (disch := omega) [Und, hl0, -Bool.exists_bool]
    exact h
@[simp] theorem steps_ok (nl : Bool) (l : List Pc) (i : Nat) (h : okOrd l) (hi : i < l.length) : ans prog O 32 [vl ePc nl l, .int .i64 i] = some (.int .i64 (lev l i)) := by
  have hl := h.1
  refine fn_of' pl get32 (oo (by decide)) rfl rfl ?_
  simp (disch := omega) [-Bool.exists_bool]
  refine lp_loop pl (fun k fr σ => ∃ (p : Nat) (n : Int), p + k = l.length ∧ p < l.length ∧ n + lev l p = lev l i + 1 ∧ fr = ⟨[(0, vl ePc nl l), (1, .int .i64 p), (5, .int .i64 n)], []⟩ ∧ σ.lim = 0)
    ⟨l.length - i, i, 1, by omega, hi, by omega, rfl, rfl⟩ ?_
  rintro k _ σ ⟨p, n, hp, hpl, hn, rfl, hl0⟩
  have h1 := lev_in h hi
  have h2 := lev_in h hpl
  by_cases he : (nth l p).into = -1
  · have e := lev_end h hpl he
    simp (disch := omega) [Und, hl0, hpl, he, -Bool.exists_bool]
    omega
  · have e := lev_into h hpl he
    obtain ⟨i1, i2, i3⟩ := into_lt h hpl he
    simp (disch := omega) [Und, hl0, hpl, he, -Bool.exists_bool]
    refine ⟨l.length - (nth l p).into.toNat, by omega, (nth l p).into.toNat, by omega, by omega, ⟨by omega, i3.symm⟩⟩
theorem askV_ok {l : List Pc} (h : okOrd l) {m : Int} (h1 : 1 ≤ m) (h2 : m ≤ 12) : askV l m = 0 := by
  unfold askV; rw [if_pos h, if_pos ⟨h1, h2⟩]
theorem lsV_ok {l : List Pc} (h : okOrd l) {m : Int} (h1 : 1 ≤ m) (h2 : m ≤ 12) : lsV l m = lst l m := by
  unfold lsV; rw [if_pos (askV_ok h h1 h2)]
theorem ShopEnough_ok (nl : Bool) (l : List Pc) (days : Int) {x : AV} (h : Slice ePc pcOK x nl l) (_ : i64 days) : ans prog O 9 [vl ePc nl l, .int .i64 days] = some (.bool true) := by
  have hx := h.len
  obtain ⟨m, j, e, hv⟩ := menV_ex l days
  have h1 := Men_ok nl l days (by omega) hv
  refine fn_of' pl get9 (oo (by decide)) rfl rfl ?_
  by_cases ho : okOrd l
  · have hl := ho.1
    have hb := height_bd ho
    by_cases he : e = 0
    · rcases hv with h | ⟨h, hd⟩ | ⟨h, hd, hh⟩ | ⟨h, hd, hh, _, _, hm⟩
      · omega
      · omega
      · omega
      have m1 := hm.lo
      have m2 := hm.hi
      have a1 := askV_ok ho m1 m2
      have a2 := lsV_ok ho m1 m2
      have a3 := hm.suf
      have a3' : ¬ days < (lst l m).1 := by omega
      have more : ∃ (m' j' : Int), m' ≤ m ∧ (days ≠ 12 → ans prog O 14 [vl ePc nl l, .int .i64 (days + 1)] = some (.tuple [.int .i64 m', .int .i64 j', .int .i64 0])) := by
        by_cases h12 : days = 12
        · exact ⟨m, 0, Int.le_refl _, fun h => absurd h12 h⟩
        · obtain ⟨m', j', e', hv'⟩ := menV_ex l (days + 1)
          have h2 := Men_ok nl l (days + 1) (by omega) hv'
          rcases hv' with h | ⟨h, hd⟩ | ⟨h, hd, hh⟩ | ⟨h, hd, hh, _, _, hm'⟩
          · exact absurd ho h
          · omega
          · omega
          · refine ⟨m', j', ?_, fun _ => h2⟩
            apply Decidable.byContradiction
            intro hc
            have := hm'.few m m1 (by omega)
            omega
      obtain ⟨m', j', hmm, h2⟩ := more
      by_cases hm1 : m = 1
      · subst hm1
        obtain rfl := hm.one rfl
        by_cases h12 : days = 12
        · subst h12
          simp (disch := omega) [h1, ho, a1, a2, a3, a3', -Bool.exists_bool]
        · have h2 := h2 h12
          simp (disch := omega) [h1, h2, ho, hd, a1, a2, a3, a3', h12, hmm, -Bool.exists_bool]
      · obtain ⟨j0, j1, j2, j3⟩ := hm.lv hm1
        have b1 := askV_ok ho (m := m - 1) (by omega) (by omega)
        have b2 := lsV_ok ho (m := m - 1) (by omega) (by omega)
        have b3 := hm.few (m - 1) (by omega) (by omega)
        have hmg : 1 < m := by omega
        simp (disch := omega) [h1, ho, hd, m1, m2, a1, a2, a3, a3', hmg, -Bool.exists_bool]
        refine lp_loop pl (fun k fr σ => ∃ i : Nat, i + k = l.length ∧ fr = ⟨[(0, vl ePc nl l), (1, .int .i64 days), (5, .int .i64 m), (6, .int .i64 j), (13, .int .i64 (cnt (fun i => decide (j < (lev l i : Int))) i)), (14, .int .i64 i)], []⟩ ∧ σ.lim = 0) ⟨l.length, 0, by omega, rfl, by simp⟩ ?_
        rintro k _ σ ⟨i, hi, rfl, hl0⟩
        have hc := cnt_le (fun i => decide (j < (lev l i : Int))) i
        by_cases hil : i < l.length
        · simp (disch := omega) [Und, hl0, hil, ho, -Bool.exists_bool]
          refine ⟨fun h1 => ⟨k - 1, by omega, i + 1, by omega, ⟨?_, by omega⟩⟩, fun h1 => ⟨k - 1, by omega, i + 1, by omega, ⟨?_, by omega⟩⟩⟩
          · simp only [cnt, decide_eq_true h1, if_true]; omega
          · have h2 : ¬ j < (lev l i : Int) := by omega
            simp only [cnt, decide_eq_false h2]; simp
        · obtain rfl : i = l.length := by omega
          have hab : cnt (fun i => decide (j < (lev l i : Int))) l.length = above l j := rfl
          have hbe : bnd l (m - 1) j = j + ((above l j : Int) + (m - 1) - 1) / (m - 1) := rfl
          have hq : ((above l j : Int) + (m - 1) - 1) / (m - 1) = bnd l (m - 1) j - j := by omega
          have hbb := bnd_bd ho (men := m - 1) (by omega) j0
          have hbg : ¬ j + (bnd l (m - 1) j - j) ≤ days := by omega
          have hpos := above_pos ho (j := j.toNat) (by omega)
          rw [show ((j.toNat : Nat) : Int) = j by omega] at hpos
          have hne : ¬ above l j = 0 := by omega
          have hls : ¬ (lst l (m - 1)).1 ≤ days := by omega
          have hj0 : ¬ j < 0 := by omega
          by_cases h12 : days = 12
          · simp (disch := omega) [Und, hl0, hab, hq, b1, b2, hbg, hne, hls, hj0, h12, -Bool.exists_bool]
            omega
          · have h2 := h2 h12
            simp (disch := omega) [Und, hl0, hab, hq, b1, b2, hbg, hne, hls, hj0, h12, h2, hmm, -Bool.exists_bool]
    · simp (disch := omega) [h1, ho, he, -Bool.exists_bool]
      refine lp_loop pl (fun k fr σ => ∃ i : Nat, i + k = l.length ∧ fr = ⟨[(0, vl ePc nl l), (1, .int .i64 days), (5, .int .i64 m), (6, .int .i64 j), (7, .int .i64 e), (8, .int .i64 (maxTo (lev l) i)), (9, .int .i64 i)], []⟩ ∧ σ.lim = 0) ⟨l.length, 0, by omega, rfl, rfl⟩ ?_
      rintro k _ σ ⟨i, hi, rfl, hl0⟩
      by_cases hil : i < l.length
      · simp (disch := omega) [Und, hl0, hil, ho, -Bool.exists_bool]
        exact ⟨k - 1, by omega, i + 1, by omega, ⟨by simp only [maxTo]; omega, by omega⟩⟩
      · obtain rfl : i = l.length := by omega
        have eh : maxTo (lev l) l.length = height l := rfl
        rcases hv with h | ⟨h, hd⟩ | ⟨h, hd, hh⟩ | ⟨h, hd, hh, _, _, hm⟩
        · exact absurd ho h
        · simp (disch := omega) [Und, hl0, ho, hd, -Bool.exists_bool]
        · simp (disch := omega) [Und, hl0, ho, hd, eh, hh, -Bool.exists_bool]
        · exact absurd rfl he
  · have hv' : m = 0 ∧ j = 0 ∧ e = 100 := by
      rcases hv with h | ⟨h, hd⟩ | ⟨h, hd, hh⟩ | ⟨h, hd, hh, _, _, hm⟩
      · exact ⟨rfl, rfl, rfl⟩
      · exact absurd h ho
      · exact absurd h ho
      · exact absurd h ho
    obtain ⟨rfl, rfl, rfl⟩ := hv'
    simp (disch := omega) [h1, ho, -Bool.exists_bool]
    refine lp_loop pl (fun k fr σ => fr = ⟨[(0, vl ePc nl l), (1, .int .i64 days), (5, .int .i64 0), (6, .int .i64 0), (7, .int .i64 100), (8, .int .i64 0), (9, .int .i64 0)], []⟩ ∧ σ.lim = 0) ⟨0, rfl, rfl⟩ ?_
    rintro k _ σ ⟨rfl, hl0⟩
    simp (disch := omega) [Und, hl0, ho, -Bool.exists_bool]
end Go.Oct.Shop
