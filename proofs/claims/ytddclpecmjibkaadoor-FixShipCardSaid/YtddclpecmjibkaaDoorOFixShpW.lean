/- FixShip: its helpers. -/
import Derived.Test.YtddclpecmjibkaaDoorOFixSatP
import Derived.Test.YtddclpecmjibkaaDoorOFixTrkW
set_option maxRecDepth 100000
set_option maxHeartbeats 8000000
set_option linter.unusedVariables false
set_option linter.unusedSimpArgs false
namespace Go.Oct.Fix
open Go.Oct
theorem sailed_ok (E N : Span) (nS : Bool) (S : List Stp) (nt : Bool) (t : List Span) (hz : szLog S) (ht : t.length < 2 ^ 62) (hok : okLog E N S) : ans prog O 36 [eLog E N nS S, vl eSpan nt t] = some (.bool (decide (TrueT E N S t))) := by
  have hru := lruns_ok E N nS S hz.1
  have h12 := hok.2.2.1
  have hRle := rnT_le S S.length
  rw [rnT_all] at hRle
  unfold eLog at hru
  have hE := hok.1
  have hN := hok.2.1
  unfold isSp at hE hN
  refine fn_of' pl get36 (oo (by decide)) rfl rfl ?_
  by_cases hl : t.length = (rns S).length + 1
  · have hl' : (t.length : Int) = ((rns S).length : Int) + 1 := by omega
    have h0 : 0 < t.length := by omega
    have h0' : (0 : Int) < t.length := by omega
    by_cases he : E.lo ≤ (nth t 0).lo ∧ (nth t 0).lo ≤ E.hi
    · by_cases hn : N.lo ≤ (nth t 0).hi ∧ (nth t 0).hi ≤ N.hi
      · simp (disch := omega) [eLog, hru, eq_true hl', h0, h0', eq_true he, eq_true hn, Und, eqf1, eqf2, -Bool.exists_bool]
        have hs0 : inSea (nth t 0) := ⟨⟨by omega, by omega⟩, by omega, by omega⟩
        refine lp_loop pl (fun k fr σ => ∃ i : Nat, i + k = S.length ∧ fr = ⟨[(1, vl eSpan nt t), (2, .ptr (some (0, 0))), (5, .int .i64 (rnT S i).length), (6, .int .i64 i)], []⟩ ∧ σ.lim = 0 ∧ 1 ≤ σ.next ∧ σ.get 0 = some (.cells [.int .i64 E.lo, .int .i64 E.hi, .int .i64 N.lo, .int .i64 N.hi, vl eStp nS S]) ∧ sat t (S.take i) 0 ∧ ∀ j, j ≤ (rnT S i).length → inSea (nth t j))
          ⟨S.length, 0, by omega, rfl, by simp, by simp, by simp, by simp [sat], fun j hj => by
            obtain rfl : j = 0 := by simpa [rnT, rns] using hj
            exact hs0⟩ ?_
        rintro k _ σ ⟨i, hi, rfl, s0, sn, sg, hsat, hsea⟩
        have l0 := AH.get_lt sg
        by_cases hiS : i < S.length
        · have hiS' : (i : Int) < S.length := by omega
          have hss := sat_succ (t := t) hiS
          have hmono := rnT_mono (S := S) (i := i) (d := S.length - i) (by omega)
          rw [show i + (S.length - i) = S.length by omega, rnT_all] at hmono
          have hrs := rnT_succ hiS
          have hlg : ((rnT S i).length : Int) < t.length := by omega
          have hlg' : (rnT S i).length < t.length := by omega
          obtain ⟨⟨p1, p2⟩, p3, p4⟩ := hsea _ (Nat.le_refl _)
          obtain ⟨lg, hlgd⟩ : ∃ lg, lg = (rnT S i).length := ⟨_, rfl⟩
          rw [← hlgd] at hss p1 p2 p3 p4 hlg hlg' hmono
          have hkk := hok.2.2.2 i hiS
          have hno1 : ¬ stepOK (nth S i) t lg → ¬ TrueT E N S t := fun h1 h2 => by
            have := sat_take (true_sat.1 h2).2.2.2.2 (i + 1)
            exact h1 (hss.1 this).2
          have n0' : ¬ 0 = σ.next := by omega
          have n1' : ¬ 0 = σ.next + 1 := by omega
          have n2' : ¬ 0 = σ.next + 2 := by omega
          rcases hkk with hk1 | hk2 | hk3
          · have hln := hk1.2.1
            unfold okLine at hln
            have m1 : -1180 ≤ (nth S i).a * (nth t lg).lo ∧ (nth S i).a * (nth t lg).lo ≤ 1180 := by
              have h1 : (nth S i).a * (nth t lg).lo ≤ 20 * (nth t lg).lo := Int.mul_le_mul_of_nonneg_right hln.1.2 p1
              have h2 : -20 * (nth t lg).lo ≤ (nth S i).a * (nth t lg).lo := Int.mul_le_mul_of_nonneg_right hln.1.1 p1
              omega
            have m2 : -1180 ≤ (nth S i).b * (nth t lg).hi ∧ (nth S i).b * (nth t lg).hi ≤ 1180 := by
              have h1 : (nth S i).b * (nth t lg).hi ≤ 20 * (nth t lg).hi := Int.mul_le_mul_of_nonneg_right hln.2.1.2 p3
              have h2 : -20 * (nth t lg).hi ≤ (nth S i).b * (nth t lg).hi := Int.mul_le_mul_of_nonneg_right hln.2.1.1 p3
              omega
            have hir : ¬ isRun (nth S i) = true := by unfold isRun; simp [hk1.1]
            rw [if_neg hir, List.append_nil] at hrs
            have hst : stepOK (nth S i) t lg ↔ (nth S i).vlo ≤ (nth S i).a * (nth t lg).lo + (nth S i).b * (nth t lg).hi ∧ (nth S i).a * (nth t lg).lo + (nth S i).b * (nth t lg).hi ≤ (nth S i).vhi := by
              unfold stepOK
              rw [if_neg hir]
              unfold hld
              rw [if_pos hk1.1, inI_iff]
            rw [← hlgd]
            by_cases hc : (nth S i).vlo ≤ (nth S i).a * (nth t lg).lo + (nth S i).b * (nth t lg).hi ∧ (nth S i).a * (nth t lg).lo + (nth S i).b * (nth t lg).hi ≤ (nth S i).vhi
            · simp (disch := omega) [Und, eqf1, eqf2, s0, sg, l0, n0', n1', n2', hiS', hlg, hlg', hk1.1, eq_true hc, ltT, -Bool.exists_bool]
              exact ⟨k - 1, by omega, i + 1, by omega, ⟨by rw [hrs]; omega, rfl⟩, hss.2 ⟨hsat, hst.2 hc⟩, by rw [hrs]; exact hsea⟩
            · have hno := hno1 (fun h => hc (hst.1 h))
              simp (disch := omega) [Und, eqf1, eqf2, s0, sg, l0, n0', n1', n2', hiS', hlg, hlg', hk1.1, eq_false hc, hno, ltT, -Bool.exists_bool]
          · have hir : isRun (nth S i) = true := by unfold isRun; simp [hk2.1]
            have h1 := hk2.2.2.2.1
            have h2 := hk2.2.2.2.2.1
            unfold isSp at h1 h2
            simp only at h1 h2
            rw [if_pos hir] at hrs
            have hrl : (rnT S (i + 1)).length = lg + 1 := by rw [hrs, List.length_append, ← hlgd]; rfl
            have hmono2 := rnT_mono (S := S) (i := i + 1) (d := S.length - (i + 1)) (by omega)
            rw [show i + 1 + (S.length - (i + 1)) = S.length by omega, rnT_all, hrl] at hmono2
            have hlg2 : (lg : Int) + 1 < t.length := by omega
            have hlg2' : lg + 1 < t.length := by omega
            have hlg0 : (0 : Int) ≤ (lg : Int) + 1 := by omega
            have n3' : ¬ 0 = σ.next + 1 + 1 := by omega
            have hst : stepOK (nth S i) t lg ↔ ((0 ≤ (nth t (lg + 1)).lo ∧ (nth t (lg + 1)).lo ≤ 59) ∧ 0 ≤ (nth t (lg + 1)).hi ∧ (nth t (lg + 1)).hi ≤ 59) ∧ ((nth S i).elo ≤ (nth t (lg + 1)).lo - (nth t lg).lo ∧ (nth t (lg + 1)).lo - (nth t lg).lo ≤ (nth S i).ehi) ∧ (nth S i).nlo ≤ (nth t (lg + 1)).hi - (nth t lg).hi ∧ (nth t (lg + 1)).hi - (nth t lg).hi ≤ (nth S i).nhi := by
              unfold stepOK
              rw [if_pos hir]
              unfold goI inSea
              rw [Bool.and_eq_true, inI_iff, inI_iff]
            rw [← hlgd]
            obtain ⟨x, hx⟩ : ∃ x, (nth t (lg + 1)).lo = x := ⟨_, rfl⟩
            obtain ⟨y, hy⟩ : ∃ y, (nth t (lg + 1)).hi = y := ⟨_, rfl⟩
            rw [hx, hy] at hst
            have fail : ¬ stepOK (nth S i) t lg → decide (TrueT E N S t) = false := fun h => decide_eq_false (hno1 h)
            by_cases c1 : 0 ≤ x ∧ x ≤ 59
            · by_cases c2 : 0 ≤ y ∧ y ≤ 59
              · by_cases c3 : (nth S i).elo ≤ x - (nth t lg).lo ∧ x - (nth t lg).lo ≤ (nth S i).ehi
                · by_cases c4 : (nth S i).nlo ≤ y - (nth t lg).hi ∧ y - (nth t lg).hi ≤ (nth S i).nhi
                  · simp (disch := omega) [Und, eqf1, eqf2, s0, sg, l0, n0', n1', n2', n3', hiS', hlg, hlg', hlg0, hlg2, hlg2', hx, hy, hk2.1, eq_true c1, eq_true c2, eq_true c3, eq_true c4, ltT, -Bool.exists_bool]
                    refine ⟨k - 1, by omega, i + 1, by omega, ⟨by omega, rfl⟩, hss.2 ⟨hsat, hst.2 ⟨⟨c1, c2⟩, c3, c4⟩⟩, fun j hj => ?_⟩
                    by_cases e : j ≤ lg
                    · exact hsea j (by omega)
                    · obtain rfl : j = lg + 1 := by omega
                      exact ⟨by rw [hx]; exact c1, by rw [hy]; exact c2⟩
                  · have hno := fail (fun h => c4 (hst.1 h).2.2)
                    simp (disch := omega) [Und, eqf1, eqf2, s0, sg, l0, n0', n1', n2', n3', hiS', hlg, hlg', hlg0, hlg2, hlg2', hx, hy, hk2.1, eq_true c1, eq_true c2, eq_true c3, eq_false c4, hno, ltT, -Bool.exists_bool]
                · have hno := fail (fun h => c3 (hst.1 h).2.1)
                  simp (disch := omega) [Und, eqf1, eqf2, s0, sg, l0, n0', n1', n2', n3', hiS', hlg, hlg', hlg0, hlg2, hlg2', hx, hy, hk2.1, eq_true c1, eq_true c2, eq_false c3, hno, ltT, -Bool.exists_bool]
              · have hno := fail (fun h => c2 (hst.1 h).1.2)
                simp (disch := omega) [Und, eqf1, eqf2, s0, sg, l0, n0', n1', n2', n3', hiS', hlg, hlg', hlg0, hlg2, hlg2', hx, hy, hk2.1, eq_true c1, eq_false c2, hno, ltT, -Bool.exists_bool]
            · have hno := fail (fun h => c1 (hst.1 h).1.1)
              simp (disch := omega) [Und, eqf1, eqf2, s0, sg, l0, n0', n1', n2', n3', hiS', hlg, hlg', hlg0, hlg2, hlg2', hx, hy, hk2.1, eq_false c1, hno, ltT, -Bool.exists_bool]
          · have hir : ¬ isRun (nth S i) = true := by unfold isRun; simp [hk3.1]
            rw [if_neg hir, List.append_nil] at hrs
            have hcl3 := hk3.2.2.2.2.1
            have hst : stepOK (nth S i) t lg ↔ 2 ≤ clk (nth S i).cl (nth t lg).lo := by
              unfold stepOK
              rw [if_neg hir]
              unfold hld
              rw [if_neg (by omega), decide_eq_true_eq]
            rw [← hlgd]
            simp (disch := omega) [Und, eqf1, eqf2, s0, sg, l0, n0', n1', n2', hiS', hlg, hlg', hk3.1, ltT, -Bool.exists_bool]
            generalize hτ : AH.set _ (σ.next + 1) _ = τ
            have t0 : τ.lim = 0 := by rw [← hτ]; rfl
            have tn : τ.next = σ.next + 2 := by rw [← hτ]; rfl
            have tg0 : τ.get 0 = _ := (by rw [← hτ]; simp (disch := omega) [eqf1, eqf2, n0', n1', l0, sg, ltT] : τ.get 0 = some (.cells [.int .i64 E.lo, .int .i64 E.hi, .int .i64 N.lo, .int .i64 N.hi, vl eStp nS S]))
            have tg1 : τ.get σ.next = _ := (by rw [← hτ]; simp (disch := omega) [eqf1, eqf2, ltT] : τ.get σ.next = some (.cells [.int .i64 3, .int .i64 (nth S i).a, .int .i64 (nth S i).b, .int .i64 (nth S i).vlo, .int .i64 (nth S i).vhi, .int .i64 (nth S i).elo, .int .i64 (nth S i).ehi, .int .i64 (nth S i).nlo, .int .i64 (nth S i).nhi, vl eSpan (nth S i).cn (nth S i).cl]))
            have tg2 : τ.get (σ.next + 1) = _ := (by rw [← hτ]; simp (disch := omega) [eqf1, eqf2, ltT] : τ.get (σ.next + 1) = some (.cells [.int .i64 (nth t lg).lo, .int .i64 (nth t lg).hi]))
            clear hτ
            refine lp_loop pl (fun r fr υ => ∃ j : Nat, j + r = (nth S i).cl.length ∧ fr = ⟨[(1, vl eSpan nt t), (2, .ptr (some (0, 0))), (5, .int .i64 lg), (6, .int .i64 i), (7, .ptr (some (σ.next, 0))), (8, .ptr (some (σ.next + 1, 0))), (10, .int .i64 (clk ((nth S i).cl.take j) (nth t lg).lo)), (11, .int .i64 j)], []⟩ ∧ υ.lim = 0 ∧ 1 ≤ υ.next ∧ (∀ z, z < σ.next + 2 → υ.get z = τ.get z))
              ⟨(nth S i).cl.length, 0, by omega, rfl, t0, by omega, fun z _ => rfl⟩ ?_
            rintro r _ υ ⟨j, hj, rfl, u0, un, ug⟩
            have u1 := (ug σ.next (by omega)).trans tg1
            have u2 := (ug (σ.next + 1) (by omega)).trans tg2
            have u3 := (ug 0 (by omega)).trans tg0
            have lu1 := AH.get_lt u1
            have lu2 := AH.get_lt u2
            have lu3 := AH.get_lt u3
            have hcb := clk_le ((nth S i).cl.take j) (nth t lg).lo
            rw [List.length_take] at hcb
            by_cases hjl : j < (nth S i).cl.length
            · have hjl' : (j : Int) < (nth S i).cl.length := by omega
              have hcs := clk_succ (e := (nth t lg).lo) hjl
              by_cases hc : (nth (nth S i).cl j).lo ≤ (nth t lg).lo ∧ (nth t lg).lo ≤ (nth (nth S i).cl j).hi
              · rw [if_pos (inI_iff.2 hc)] at hcs
                simp (disch := omega) [Und, eqf1, eqf2, u0, u1, u2, lu1, lu2, hjl', eq_true hc, ltT, -Bool.exists_bool]
                exact ⟨r - 1, by omega, j + 1, by omega, ⟨by omega, rfl⟩, un, ug⟩
              · rw [if_neg (fun h => hc (inI_iff.1 h))] at hcs
                simp (disch := omega) [Und, eqf1, eqf2, u0, u1, u2, lu1, lu2, hjl', eq_false hc, ltT, -Bool.exists_bool]
                exact ⟨r - 1, by omega, j + 1, by omega, ⟨by omega, rfl⟩, un, ug⟩
            · obtain rfl : j = (nth S i).cl.length := by omega
              rw [List.take_length] at hcb ⊢
              by_cases h2 : 2 ≤ clk (nth S i).cl (nth t lg).lo
              · have h2' : ¬ (clk (nth S i).cl (nth t lg).lo : Int) < 2 := by omega
                simp (disch := omega) [Und, eqf1, eqf2, u0, u1, u2, lu1, lu2, h2', ltT, -Bool.exists_bool]
                exact ⟨k - 1, by omega, i + 1, by omega, ⟨by rw [hrs]; omega, rfl⟩, un, u3, hss.2 ⟨hsat, hst.2 h2⟩, by rw [hrs]; exact hsea⟩
              · have h2' : (clk (nth S i).cl (nth t lg).lo : Int) < 2 := by omega
                have hno := hno1 (fun h => h2 (hst.1 h))
                simp (disch := omega) [Und, eqf1, eqf2, u0, u1, u2, lu1, lu2, h2', hno, ltT, -Bool.exists_bool]
        · obtain rfl : i = S.length := by omega
          rw [List.take_length] at hsat
          have hyes : TrueT E N S t := true_sat.2 ⟨hl, inI_iff.2 he, inI_iff.2 hn, hs0, hsat⟩
          simp (disch := omega) [Und, s0, sg, l0, hyes, -Bool.exists_bool]
      · have hno : ¬ TrueT E N S t := fun h => hn (inI_iff.1 h.n0)
        simp (disch := omega) [eLog, hru, eq_true hl', h0, h0', eq_true he, eq_false hn, hno, Und, eqf1, eqf2, -Bool.exists_bool]
    · have hno : ¬ TrueT E N S t := fun h => he (inI_iff.1 h.e0)
      simp (disch := omega) [eLog, hru, eq_true hl', h0, h0', eq_false he, hno, Und, eqf1, eqf2, -Bool.exists_bool]
  · have hl' : ¬ (t.length : Int) = ((rns S).length : Int) + 1 := by omega
    have hno : ¬ TrueT E N S t := fun h => hl h.len
    simp (disch := omega) [eLog, hru, eq_false hl', hno, Und, -Bool.exists_bool]
end Go.Oct.Fix
