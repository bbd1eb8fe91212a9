/- Logs: true tracks, as the specification tells them. -/
import Derived.Test.YtddclpecmjibkaaDoorOFixRefW
import Derived.Test.YtddclpecmjibkaaDoorOFixSatP
set_option maxRecDepth 100000
set_option maxHeartbeats 8000000
set_option linter.unusedVariables false
set_option linter.unusedSimpArgs false
namespace Go.Oct.Fix
open Go.Oct
theorem rRuns_ok (E N : Span) (nS : Bool) (S : List Stp) (hS : S.length < 2 ^ 62) : ans prog O 60 [eLog E N nS S] = some (.int .i64 (rns S).length) := by
  have hb : ∀ i, (rnT S i).length ≤ i := rnT_le S
  rw [← rnT_all]
  refine fn_of' pl get60 (oo (by decide)) rfl rfl ?_
  simp (disch := omega) [eLog, -Bool.exists_bool]
  refine lp_loop pl (fun k fr σ => ∃ i : Nat, i + k = S.length ∧ fr = ⟨[(1, .ptr (some (0, 0))), (3, .int .i64 (rnT S i).length), (4, .int .i64 i)], []⟩ ∧ σ.lim = 0 ∧ σ.get 0 = some (.cells [.int .i64 E.lo, .int .i64 E.hi, .int .i64 N.lo, .int .i64 N.hi, vl eStp nS S]))
    ⟨S.length, 0, by omega, rfl, rfl, by simp⟩ ?_
  rintro k _ σ ⟨i, hi, rfl, s0, sg⟩
  have l0 := AH.get_lt sg
  by_cases hiS : i < S.length
  · have hiS' : (i : Int) < S.length := by omega
    have hs := rnT_succ hiS
    have hbi := hb i
    by_cases hk : (nth S i).k = 2
    · rw [if_pos (by unfold isRun; simp [hk])] at hs
      have hs2 : (rnT S (i + 1)).length = (rnT S i).length + 1 := by rw [hs]; simp
      simp (disch := omega) [Und, s0, sg, l0, hiS', hk, -Bool.exists_bool]
      exact ⟨k - 1, by omega, i + 1, by omega, by omega, by omega⟩
    · rw [if_neg (by unfold isRun; simp [hk]), List.append_nil] at hs
      simp (disch := omega) [Und, s0, sg, l0, hiS', hk, -Bool.exists_bool]
      exact ⟨k - 1, by omega, i + 1, by omega, by rw [hs]; exact ⟨rfl, by omega⟩⟩
  · obtain rfl : i = S.length := by omega
    simp (disch := omega) [Und, s0, sg, l0, -Bool.exists_bool]
theorem rsea_ok (e n : Int) : ans prog O 62 [.agg [.int .i64 e, .int .i64 n]] = some (.bool (decide (inSea ⟨e, n⟩))) := by
  refine fn_of' pl get62 (oo (by decide)) rfl rfl ?_
  by_cases c1 : 0 ≤ e ∧ e ≤ 59
  · by_cases c2 : 0 ≤ n ∧ n ≤ 59
    · have h : inSea ⟨e, n⟩ := ⟨c1, c2⟩
      simp (disch := omega) [eq_true c1, eq_true c2, h, Und, -Bool.exists_bool]
    · have h : ¬ inSea ⟨e, n⟩ := fun h => c2 h.2
      simp (disch := omega) [eq_true c1, eq_false c2, h, Und, -Bool.exists_bool]
  · have h : ¬ inSea ⟨e, n⟩ := fun h => c1 h.1
    simp (disch := omega) [eq_false c1, h, Und, -Bool.exists_bool]
theorem rholds_ok (s : Stp) (e n : Int) (h : okStp s) (hk : s.k ≠ 2) (he : 0 ≤ e ∧ e ≤ 59) (hn : 0 ≤ n ∧ n ≤ 59) : ans prog O 61 [eStp s, .agg [.int .i64 e, .int .i64 n]] = some (.bool (hld s e n)) := by
  refine fn_of' pl get61 (oo (by decide)) rfl rfl ?_
  rcases h with h | h | h
  · have hl : okLine s.a s.b := h.2.1
    have m1 : -1180 ≤ s.a * e ∧ s.a * e ≤ 1180 := by
      have h1 : s.a * e ≤ 20 * e := Int.mul_le_mul_of_nonneg_right hl.1.2 he.1
      have h2 : -20 * e ≤ s.a * e := Int.mul_le_mul_of_nonneg_right hl.1.1 he.1
      omega
    have m2 : -1180 ≤ s.b * n ∧ s.b * n ≤ 1180 := by
      have h1 : s.b * n ≤ 20 * n := Int.mul_le_mul_of_nonneg_right hl.2.1.2 hn.1
      have h2 : -20 * n ≤ s.b * n := Int.mul_le_mul_of_nonneg_right hl.2.1.1 hn.1
      omega
    have e1 : hld s e n = decide (s.vlo ≤ s.a * e + s.b * n ∧ s.a * e + s.b * n ≤ s.vhi) := by unfold hld; rw [if_pos h.1]; rfl
    rw [e1]
    simp (disch := omega) [eStp, h.1, Und, -Bool.exists_bool]
  · exact absurd h.1 hk
  · have hcl := h.2.2.2.2.1
    have e1 : hld s e n = decide (2 ≤ clk s.cl e) := by unfold hld; rw [if_neg (by omega)]
    rw [e1]
    simp (disch := omega) [eStp, h.1, Und, -Bool.exists_bool]
    refine lp_loop pl (fun k fr σ => ∃ i : Nat, i + k = 3 ∧ fr = ⟨[(2, .ptr (some (0, 0))), (3, .ptr (some (1, 0))), (5, .int .i64 (clk (s.cl.take i) e)), (6, .int .i64 i)], []⟩ ∧ σ.lim = 0 ∧ σ.get 0 = some (.cells [.int .i64 3, .int .i64 s.a, .int .i64 s.b, .int .i64 s.vlo, .int .i64 s.vhi, .int .i64 s.elo, .int .i64 s.ehi, .int .i64 s.nlo, .int .i64 s.nhi, vl eSpan s.cn s.cl]) ∧ σ.get 1 = some (.cells [.int .i64 e, .int .i64 n]))
      ⟨3, 0, by omega, rfl, by simp, by simp, by simp⟩ ?_
    rintro k _ σ ⟨i, hi, rfl, s0, sg, sg1⟩
    have l0 := AH.get_lt sg
    have l1 := AH.get_lt sg1
    have hcb := clk_le (s.cl.take i) e
    rw [List.length_take] at hcb
    by_cases hi3 : i < 3
    · have hi3' : (i : Int) < 3 := by omega
      have hil : i < s.cl.length := by omega
      have hil' : (i : Int) < s.cl.length := by omega
      have hcs := clk_succ (e := e) hil
      by_cases hc : (nth s.cl i).lo ≤ e ∧ e ≤ (nth s.cl i).hi
      · rw [if_pos (inI_iff.2 hc)] at hcs
        simp (disch := omega) [Und, eqf1, eqf2, s0, sg, sg1, l0, l1, hi3', hil', eq_true hc, ltT, -Bool.exists_bool]
        exact ⟨k - 1, by omega, i + 1, by omega, by omega, by omega⟩
      · rw [if_neg (fun h => hc (inI_iff.1 h))] at hcs
        simp (disch := omega) [Und, eqf1, eqf2, s0, sg, sg1, l0, l1, hi3', hil', eq_false hc, ltT, -Bool.exists_bool]
        exact ⟨k - 1, by omega, i + 1, by omega, by omega, by omega⟩
    · obtain rfl : i = 3 := by omega
      rw [List.take_of_length_le (by omega)]
      simp (disch := omega) [Und, s0, -Bool.exists_bool]
      omega
end Go.Oct.Fix
