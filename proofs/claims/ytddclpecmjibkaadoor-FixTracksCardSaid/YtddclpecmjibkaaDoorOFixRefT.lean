/- Logs: true tracks, as the specification tells them. -/
import Derived.Test.YtddclpecmjibkaaDoorOFixRefW
import Derived.Test.YtddclpecmjibkaaDoorOFixSatP
set_option maxRecDepth 100000
set_option maxHeartbeats 8000000
set_option linter.unusedVariables false
set_option linter.unusedSimpArgs false
namespace Go.Oct.Fix
open Go.Oct
theorem rRuns_ok (E N : Span) (nS : Bool) (S : List Stp) (hS : S.length < 2 ^ 62) : ans prog O 60 [eLog E N nS S] = some (.int .i64 (rns S).length) := by
  have hb : ∀ i, (rnT S i).length ≤ i := rnT_le S
  rw [← rnT_all]
  refine fn_of' pl get60 (oo (by decide)) rfl rfl ?_
  simp (disch := omega) [eLog, -Bool.exists_bool]
  refine lp_loop pl (fun k fr σ => ∃ i : Nat, i + k = S.length ∧ fr = ⟨[(1, .ptr (some (0, 0))), (3, .int .i64 (rnT S i).length), (4, .int .i64 i)], []⟩ ∧ σ.lim = 0 ∧ σ.get 0 = some (.cells [.int .i64 E.lo, .int .i64 E.hi, .int .i64 N.lo, .int .i64 N.hi, vl eStp nS S]))
    ⟨S.length, 0, by omega, rfl, rfl, by simp⟩ ?_
  rintro k _ σ ⟨i, hi, rfl, s0, sg⟩
  have l0 := AH.get_lt sg
  by_cases hiS : i < S.length
  · have hiS' : (i : Int) < S.length := by omega
    have hs := rnT_succ hiS
    have hbi := hb i
    by_cases hk : (nth S i).k = 2
    · rw [if_pos (by unfold isRun; simp [hk])] at hs
      have hs2 : (rnT S (i + 1)).length = (rnT S i).length + 1 := by rw [hs]; simp
      simp (disch := omega) [Und, s0, sg, l0, hiS', hk, -Bool.exists_bool]
      exact ⟨k - 1, by omega, i + 1, by omega, by omega, by omega⟩
    · rw [if_neg (by unfold isRun; simp [hk]), List.append_nil] at hs
      simp (disch := omega) [Und, s0, sg, l0, hiS', hk, -Bool.exists_bool]
      exact ⟨k - 1, by omega, i + 1, by omega, by rw [hs]; exact ⟨rfl, by omega⟩⟩
  · obtain rfl : i = S.length := by omega
    simp (disch := omega) [Und, s0, sg, l0, -Bool.exists_bool]
theorem rsea_ok (e n : Int) : ans prog O 62 [.agg [.int .i64 e, .int .i64 n]] = some (.bool (decide (inSea ⟨e, n⟩))) := by
  refine fn_of' pl get62 (oo (by decide)) rfl rfl ?_
  by_cases c1 : 0 ≤ e ∧ e ≤ 59
  · by_cases c2 : 0 ≤ n ∧ n ≤ 59
    · have h : inSea ⟨e, n⟩ := ⟨c1, c2⟩
      simp (disch := omega) [eq_true c1, eq_true c2, h, Und, -Bool.exists_bool]
    · have h : ¬ inSea ⟨e, n⟩ := fun h => c2 h.2
      simp (disch := omega) [eq_true c1, eq_false c2, h, Und, -Bool.exists_bool]
  · have h : ¬ inSea ⟨e, n⟩ := fun h => c1 h.1
    simp (disch := omega) [eq_false c1, h, Und, -Bool.exists_bool]
theorem rruns_ok (s : Stp) (e n e' n' : Int) (he : (0 ≤ e ∧ e ≤ 59) ∧ 0 ≤ n ∧ n ≤ 59) (he' : (0 ≤ e' ∧ e' ≤ 59) ∧ 0 ≤ n' ∧ n' ≤ 59) : ans prog O 63 [eStp s, .agg [.int .i64 e, .int .i64 n], .agg [.int .i64 e', .int .i64 n']] = some (.bool (goI s e n e' n')) := by
  refine fn_of' pl get63 (oo (by decide)) rfl rfl ?_
  obtain ⟨⟨h1, h2⟩, h3, h4⟩ := he
  obtain ⟨⟨h5, h6⟩, h7, h8⟩ := he'
  by_cases c1 : s.elo ≤ e' - e ∧ e' - e ≤ s.ehi
  · by_cases c2 : s.nlo ≤ n' - n ∧ n' - n ≤ s.nhi
    · have h : goI s e n e' n' = true := by unfold goI; rw [inI_iff.2 c1, inI_iff.2 c2]; rfl
      simp (disch := omega) [eStp, eq_true c1, eq_true c2, h, Und, -Bool.exists_bool]
    · have h : goI s e n e' n' = false := by
        cases e1 : goI s e n e' n' with
        | false => rfl
        | true => unfold goI at e1; rw [Bool.and_eq_true] at e1; exact absurd (inI_iff.1 e1.2) c2
      simp (disch := omega) [eStp, eq_true c1, eq_false c2, h, Und, -Bool.exists_bool]
  · have h : goI s e n e' n' = false := by
      cases e1 : goI s e n e' n' with
      | false => rfl
      | true => unfold goI at e1; rw [Bool.and_eq_true] at e1; exact absurd (inI_iff.1 e1.1) c1
    simp (disch := omega) [eStp, eq_false c1, h, Und, -Bool.exists_bool]
theorem rholds_ok (s : Stp) (e n : Int) (h : okStp s) (hk : s.k ≠ 2) (he : 0 ≤ e ∧ e ≤ 59) (hn : 0 ≤ n ∧ n ≤ 59) : ans prog O 61 [eStp s, .agg [.int .i64 e, .int .i64 n]] = some (.bool (hld s e n)) := by
  refine fn_of' pl get61 (oo (by decide)) rfl rfl ?_
  rcases h with h | h | h
  · have hl : okLine s.a s.b := h.2.1
    have m1 : -1180 ≤ s.a * e ∧ s.a * e ≤ 1180 := by
      have h1 : s.a * e ≤ 20 * e := Int.mul_le_mul_of_nonneg_right hl.1.2 he.1
      have h2 : -20 * e ≤ s.a * e := Int.mul_le_mul_of_nonneg_right hl.1.1 he.1
      omega
    have m2 : -1180 ≤ s.b * n ∧ s.b * n ≤ 1180 := by
      have h1 : s.b * n ≤ 20 * n := Int.mul_le_mul_of_nonneg_right hl.2.1.2 hn.1
      have h2 : -20 * n ≤ s.b * n := Int.mul_le_mul_of_nonneg_right hl.2.1.1 hn.1
      omega
    have e1 : hld s e n = decide (s.vlo ≤ s.a * e + s.b * n ∧ s.a * e + s.b * n ≤ s.vhi) := by unfold hld; rw [if_pos h.1]; rfl
    rw [e1]
    simp (disch := omega) [eStp, h.1, Und, -Bool.exists_bool]
  · exact absurd h.1 hk
  · have hcl := h.2.2.2.2.1
    have e1 : hld s e n = decide (2 ≤ clk s.cl e) := by unfold hld; rw [if_neg (by omega)]
    rw [e1]
    simp (disch := omega) [eStp, h.1, Und, -Bool.exists_bool]
    refine lp_loop pl (fun k fr σ => ∃ i : Nat, i + k = 3 ∧ fr = ⟨[(2, .ptr (some (0, 0))), (3, .ptr (some (1, 0))), (5, .int .i64 (clk (s.cl.take i) e)), (6, .int .i64 i)], []⟩ ∧ σ.lim = 0 ∧ σ.get 0 = some (.cells [.int .i64 3, .int .i64 s.a, .int .i64 s.b, .int .i64 s.vlo, .int .i64 s.vhi, .int .i64 s.elo, .int .i64 s.ehi, .int .i64 s.nlo, .int .i64 s.nhi, vl eSpan s.cn s.cl]) ∧ σ.get 1 = some (.cells [.int .i64 e, .int .i64 n]))
      ⟨3, 0, by omega, rfl, by simp, by simp, by simp⟩ ?_
    rintro k _ σ ⟨i, hi, rfl, s0, sg, sg1⟩
    have l0 := AH.get_lt sg
    have l1 := AH.get_lt sg1
    have hcb := clk_le (s.cl.take i) e
    rw [List.length_take] at hcb
    by_cases hi3 : i < 3
    · have hi3' : (i : Int) < 3 := by omega
      have hil : i < s.cl.length := by omega
      have hil' : (i : Int) < s.cl.length := by omega
      have hcs := clk_succ (e := e) hil
      by_cases hc : (nth s.cl i).lo ≤ e ∧ e ≤ (nth s.cl i).hi
      · rw [if_pos (inI_iff.2 hc)] at hcs
        simp (disch := omega) [Und, eqf1, eqf2, s0, sg, sg1, l0, l1, hi3', hil', eq_true hc, ltT, -Bool.exists_bool]
        exact ⟨k - 1, by omega, i + 1, by omega, by omega, by omega⟩
      · rw [if_neg (fun h => hc (inI_iff.1 h))] at hcs
        simp (disch := omega) [Und, eqf1, eqf2, s0, sg, sg1, l0, l1, hi3', hil', eq_false hc, ltT, -Bool.exists_bool]
        exact ⟨k - 1, by omega, i + 1, by omega, by omega, by omega⟩
    · obtain rfl : i = 3 := by omega
      rw [List.take_of_length_le (by omega)]
      simp (disch := omega) [Und, s0, -Bool.exists_bool]
      omega
theorem rTrue_ok (E N : Span) (nS : Bool) (S : List Stp) (nt : Bool) (t : List Span) (hz : szLog S) (ht : t.length < 2 ^ 62) : ans prog O 18 [eLog E N nS S, vl eSpan nt t] = some (trueV E N S t) := by
  have hck := rCheck_ok E N nS S hz
  refine fn_of' pl get18 (oo (by decide)) rfl rfl ?_
  by_cases hok : okLog E N S
  · have hru := rRuns_ok E N nS S hz.1
    have h12 := hok.2.2.1
    have hRle := rnT_le S S.length
    rw [rnT_all] at hRle
    rw [if_pos hok] at hck
    unfold trueV
    rw [if_pos hok]
    unfold eLog at hck hru
    have hE := hok.1
    have hN := hok.2.1
    unfold isSp at hE hN
    by_cases hl : t.length = (rns S).length + 1
    · have hl' : (t.length : Int) = ((rns S).length : Int) + 1 := by omega
      have h0 : 0 < t.length := by omega
      have h0' : (0 : Int) < t.length := by omega
      by_cases he : E.lo ≤ (nth t 0).lo ∧ (nth t 0).lo ≤ E.hi
      · by_cases hn : N.lo ≤ (nth t 0).hi ∧ (nth t 0).hi ≤ N.hi
        · simp (disch := omega) [eLog, hck, hru, eq_true hl', h0, h0', eq_true he, eq_true hn, Und, eqf1, eqf2, -Bool.exists_bool]
          have hs0 : inSea (nth t 0) := ⟨⟨by omega, by omega⟩, by omega, by omega⟩
          refine lp_loop pl (fun k fr σ => ∃ i : Nat, i + k = S.length ∧ fr = ⟨[(1, vl eSpan nt t), (2, .ptr (some (0, 0))), (7, .int .i64 (rnT S i).length), (8, .int .i64 i)], []⟩ ∧ σ.lim = 0 ∧ 1 ≤ σ.next ∧ σ.get 0 = some (.cells [.int .i64 E.lo, .int .i64 E.hi, .int .i64 N.lo, .int .i64 N.hi, vl eStp nS S]) ∧ sat t (S.take i) 0 ∧ ∀ j, j ≤ (rnT S i).length → inSea (nth t j))
            ⟨S.length, 0, by omega, rfl, by simp, by simp, by simp, by simp [sat], fun j hj => by
              obtain rfl : j = 0 := by simpa [rnT, rns] using hj
              exact hs0⟩ ?_
          rintro k _ σ ⟨i, hi, rfl, s0, sn, sg, hsat, hsea⟩
          have l0 := AH.get_lt sg
          by_cases hiS : i < S.length
          · have hiS' : (i : Int) < S.length := by omega
            have hss := sat_succ (t := t) hiS
            have hmono := rnT_mono (S := S) (i := i) (d := S.length - i) (by omega)
            rw [show i + (S.length - i) = S.length by omega, rnT_all] at hmono
            have hrs := rnT_succ hiS
            have hlg : ((rnT S i).length : Int) < t.length := by omega
            have hlg' : (rnT S i).length < t.length := by omega
            obtain ⟨⟨p1, p2⟩, p3, p4⟩ := hsea _ (Nat.le_refl _)
            obtain ⟨lg, hlgd⟩ : ∃ lg, lg = (rnT S i).length := ⟨_, rfl⟩
            rw [← hlgd] at hss p1 p2 p3 p4 hlg hlg' hmono
            have hkk := hok.2.2.2 i hiS
            have hno1 : ¬ stepOK (nth S i) t lg → ¬ TrueT E N S t := fun h1 h2 => by
              have := sat_take (true_sat.1 h2).2.2.2.2 (i + 1)
              exact h1 (hss.1 this).2
            have n0' : ¬ 0 = σ.next := by omega
            rw [← hlgd]
            by_cases hk : (nth S i).k = 2
            · have hir : isRun (nth S i) = true := by unfold isRun; simp [hk]
              rw [if_pos hir] at hrs
              have hrl : (rnT S (i + 1)).length = lg + 1 := by rw [hrs, List.length_append, ← hlgd]; rfl
              have hmono2 := rnT_mono (S := S) (i := i + 1) (d := S.length - (i + 1)) (by omega)
              rw [show i + 1 + (S.length - (i + 1)) = S.length by omega, rnT_all, hrl] at hmono2
              have hlg2 : (lg : Int) + 1 < t.length := by omega
              have hlg2' : lg + 1 < t.length := by omega
              have hlg0 : (0 : Int) ≤ (lg : Int) + 1 := by omega
              have hse := rsea_ok (nth t (lg + 1)).lo (nth t (lg + 1)).hi
              have hst : stepOK (nth S i) t lg ↔ inSea (nth t (lg + 1)) ∧ goI (nth S i) (nth t lg).lo (nth t lg).hi (nth t (lg + 1)).lo (nth t (lg + 1)).hi = true := by
                unfold stepOK
                rw [if_pos hir]
              by_cases c1 : inSea (nth t (lg + 1))
              · rw [decide_eq_true (show inSea ⟨(nth t (lg + 1)).lo, (nth t (lg + 1)).hi⟩ from c1)] at hse
                have hgo := rruns_ok (nth S i) (nth t lg).lo (nth t lg).hi (nth t (lg + 1)).lo (nth t (lg + 1)).hi ⟨⟨p1, p2⟩, p3, p4⟩ c1
                unfold eStp at hgo
                rw [hk] at hgo
                cases c2 : goI (nth S i) (nth t lg).lo (nth t lg).hi (nth t (lg + 1)).lo (nth t (lg + 1)).hi
                · rw [c2] at hgo
                  have hno := hno1 (fun h => by have := (hst.1 h).2; rw [c2] at this; cases this)
                  simp (disch := omega) [Und, eqf1, eqf2, s0, sg, l0, n0', hiS', hlg, hlg', hlg0, hlg2, hlg2', hk, hse, hgo, hno, ltT, -Bool.exists_bool]
                · rw [c2] at hgo
                  simp (disch := omega) [Und, eqf1, eqf2, s0, sg, l0, n0', hiS', hlg, hlg', hlg0, hlg2, hlg2', hk, hse, hgo, ltT, -Bool.exists_bool]
                  refine ⟨k - 1, by omega, i + 1, by omega, ⟨by omega, rfl⟩, hss.2 ⟨hsat, hst.2 ⟨c1, c2⟩⟩, fun j hj => ?_⟩
                  by_cases e : j ≤ lg
                  · exact hsea j (by omega)
                  · obtain rfl : j = lg + 1 := by omega
                    exact c1
              · rw [decide_eq_false (show ¬ inSea ⟨(nth t (lg + 1)).lo, (nth t (lg + 1)).hi⟩ from c1)] at hse
                have hno := hno1 (fun h => c1 (hst.1 h).1)
                simp (disch := omega) [Und, eqf1, eqf2, s0, sg, l0, n0', hiS', hlg, hlg', hlg0, hlg2, hlg2', hk, hse, hno, ltT, -Bool.exists_bool]
            · have hir : ¬ isRun (nth S i) = true := by unfold isRun; simp [hk]
              rw [if_neg hir, List.append_nil] at hrs
              have hho := rholds_ok (nth S i) (nth t lg).lo (nth t lg).hi hkk hk ⟨p1, p2⟩ ⟨p3, p4⟩
              unfold eStp at hho
              have hst : stepOK (nth S i) t lg ↔ hld (nth S i) (nth t lg).lo (nth t lg).hi = true := by
                unfold stepOK
                rw [if_neg hir]
              cases c2 : hld (nth S i) (nth t lg).lo (nth t lg).hi
              · rw [c2] at hho
                have hno := hno1 (fun h => by have := hst.1 h; rw [c2] at this; cases this)
                simp (disch := omega) [Und, eqf1, eqf2, s0, sg, l0, n0', hiS', hlg, hlg', hk, hho, hno, ltT, -Bool.exists_bool]
              · rw [c2] at hho
                simp (disch := omega) [Und, eqf1, eqf2, s0, sg, l0, n0', hiS', hlg, hlg', hk, hho, ltT, -Bool.exists_bool]
                exact ⟨k - 1, by omega, i + 1, by omega, ⟨by rw [hrs]; omega, rfl⟩, hss.2 ⟨hsat, hst.2 c2⟩, by rw [hrs]; exact hsea⟩
          · obtain rfl : i = S.length := by omega
            rw [List.take_length] at hsat
            have hyes : TrueT E N S t := true_sat.2 ⟨hl, inI_iff.2 he, inI_iff.2 hn, hs0, hsat⟩
            simp (disch := omega) [Und, s0, sg, l0, hyes, -Bool.exists_bool]
        · have hno : ¬ TrueT E N S t := fun h => hn (inI_iff.1 h.n0)
          simp (disch := omega) [eLog, hck, hru, eq_true hl', h0, h0', eq_true he, eq_false hn, hno, Und, eqf1, eqf2, -Bool.exists_bool]
      · have hno : ¬ TrueT E N S t := fun h => he (inI_iff.1 h.e0)
        simp (disch := omega) [eLog, hck, hru, eq_true hl', h0, h0', eq_false he, hno, Und, eqf1, eqf2, -Bool.exists_bool]
    · have hl' : ¬ (t.length : Int) = ((rns S).length : Int) + 1 := by omega
      have hno : ¬ TrueT E N S t := fun h => hl h.len
      simp (disch := omega) [eLog, hck, hru, eq_false hl', hno, Und, -Bool.exists_bool]
  · rw [if_neg hok] at hck
    unfold trueV
    rw [if_neg hok]
    unfold eLog at hck
    simp (disch := omega) [eLog, hck, Und, -Bool.exists_bool]
end Go.Oct.Fix
