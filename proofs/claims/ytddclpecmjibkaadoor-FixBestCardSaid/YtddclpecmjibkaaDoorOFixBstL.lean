/- FixBest: it answers true at all arguments. -/
import Derived.Test.YtddclpecmjibkaaDoorOFixNxtW
import Derived.Test.YtddclpecmjibkaaDoorOFixHlpW
set_option maxRecDepth 100000
set_option maxHeartbeats 8000000
set_option linter.unusedVariables false
set_option linter.unusedSimpArgs false
namespace Go.Oct.Fix
open Go.Oct
theorem cntW_app (V W : List Int) (lo hi : Int) : cntW (V ++ W) lo hi = cntW V lo hi + cntW W lo hi := by
  unfold cntW
  rw [List.filter_append, List.length_append]
theorem mostW_app (V : List Int) (d : Int) : ∀ (U : List Int) (v : Int), mostW V d (U ++ [v]) = max (mostW V d U) (cntW V v (v + d))
  | [], v => by simp [mostW]
  | u :: U, v => by
    simp only [List.cons_append, mostW, mostW_app V d U v]
    omega
theorem nth_val {x : Ask} {w : List Span} {i : Nat} (h : i < w.length) : nth (w.map (valA x)) i = valA x (nth w i) := by
  unfold nth
  rw [List.getD_eq_getElem?_getD, List.getD_eq_getElem?_getD, List.getElem?_map, List.getElem?_eq_getElem h]
  rfl
theorem left_ok (x : Ask) (nl : Bool) (w : List Span) (v : Int) (hx : okAsk x) (hw : w.length ≤ 3600) (hs : ∀ q ∈ w, inSea q) (hv : -100000 ≤ v ∧ v ≤ 100000) : ans prog O 44 [eAsk x, vl eSpan nl w, .int .i64 v] = some (.int .i64 (cntW (w.map (valA x)) (v - x.w) (v + x.w))) := by
  have hx2 := hx.2
  refine fn_of' pl get44 (oo (by decide)) rfl rfl ?_
  simp (disch := omega) [eAsk, Und, -Bool.exists_bool]
  refine lp_loop pl (fun k fr σ => ∃ i : Nat, i + k = w.length ∧ fr = ⟨[(1, vl eSpan nl w), (2, .int .i64 v), (3, .ptr (some (0, 0))), (7, .int .i64 (cntW ((w.map (valA x)).take i) (v - x.w) (v + x.w))), (8, .int .i64 i)], []⟩ ∧ σ.lim = 0 ∧ σ.get 0 = some (.cells [.int .i64 x.a, .int .i64 x.b, .int .i64 x.w]))
    ⟨w.length, 0, by omega, rfl, by simp, by simp⟩ ?_
  rintro k _ σ ⟨i, hi, rfl, s0, sg⟩
  have l0 := AH.get_lt sg
  have hcb := cntW_le ((w.map (valA x)).take i) (v - x.w) (v + x.w)
  rw [List.length_take, List.length_map] at hcb
  by_cases hiw : i < w.length
  · have hiw' : (i : Int) < w.length := by omega
    obtain ⟨⟨b1, b2⟩, b3, b4⟩ := val_bd hx (hs _ (nth_mem hiw))
    have hc : cntW ((w.map (valA x)).take (i + 1)) (v - x.w) (v + x.w) = cntW ((w.map (valA x)).take i) (v - x.w) (v + x.w) + if v - x.w ≤ valA x (nth w i) ∧ valA x (nth w i) ≤ v + x.w then 1 else 0 := by
      rw [take_succ_nth (show i < (w.map (valA x)).length by rw [List.length_map]; exact hiw), cntW_app, nth_val hiw, cntW_cons]
      rfl
    obtain ⟨y, hy⟩ : ∃ y, x.a * (nth w i).lo + x.b * (nth w i).hi = y := ⟨_, rfl⟩
    have hval : valA x (nth w i) = y := hy
    rw [hval] at hc
    by_cases h : v - x.w ≤ y ∧ y ≤ v + x.w
    · rw [if_pos h] at hc
      have h' : max (y - v) (-(y - v)) ≤ x.w := by omega
      simp (disch := omega) [Und, eqf1, eqf2, s0, sg, l0, hiw', hy, h', -Bool.exists_bool]
      exact ⟨k - 1, by omega, i + 1, by omega, by rw [hc]; omega, by omega⟩
    · rw [if_neg h] at hc
      have h' : ¬ max (y - v) (-(y - v)) ≤ x.w := by omega
      simp (disch := omega) [Und, eqf1, eqf2, s0, sg, l0, hiw', hy, h', -Bool.exists_bool]
      exact ⟨k - 1, by omega, i + 1, by omega, by rw [hc]; omega, by omega⟩
  · obtain rfl : i = w.length := by omega
    simp (disch := omega) [Und, s0, sg, l0, -Bool.exists_bool]
    rw [List.take_of_length_le (by rw [List.length_map]; exact Nat.le_refl _)]
theorem FixBest_law (E N : Span) (nS : Bool) (S : List Stp) (nA : Bool) (A : List Ask) (n0 n1 : Int) (hz : szLog S) (hA : A.length < 2 ^ 62) : ans prog O 11 [eLog E N nS S, vl eAsk nA A, .agg [.int .i64 n0, .int .i64 n1]] = some (.bool true) := by
  have hwh := Where_ok E N nS S hz
  have hnx := Next_ok E N nS S nA A hz hA
  unfold whereV at hwh
  unfold nextV at hnx
  unfold eLog at hwh hnx
  refine fn_of' pl get11 (oo (by decide)) rfl rfl ?_
  by_cases hok : okLog E N S
  · rw [if_pos hok] at hwh hnx
    by_cases ha : okAsks A
    · rw [if_pos ha] at hnx
      by_cases hne : ptsL (canR E N S) = []
      · rw [if_pos hne] at hwh hnx
        simp (disch := omega) [eLog, hwh, hnx, Und, -Bool.exists_bool]
      · rw [if_neg hne] at hwh hnx
        obtain ⟨w, hw⟩ : ∃ w, w = ptsL (canR E N S) := ⟨_, rfl⟩
        have hwl : w.length ≤ 3600 := by rw [hw]; exact ptsTo_len _ _
        have hws : ∀ q ∈ w, inSea q := fun q hq => by
          rw [hw] at hq
          obtain ⟨m, h1, _, h3⟩ := ptsL_mem.1 hq
          rw [h3]; exact pt_sea h1
        have hwne : w ≠ [] := by rw [hw]; exact hne
        have hw0 : 0 < w.length := List.length_pos_iff.2 hwne
        rw [← hw] at hwh hnx
        obtain ⟨⟨hl1, hl2⟩, haa⟩ := ha
        obtain ⟨bs1, bs2, bs3, bs4⟩ := bestA_spec w A A.length (by omega)
        obtain ⟨c, hc⟩ : ∃ c, c = (bestA w A A.length).1 := ⟨_, rfl⟩
        obtain ⟨m, hm⟩ : ∃ m, m = (bestA w A A.length).2 := ⟨_, rfl⟩
        rw [← hc] at bs1 bs2 bs4 hnx
        rw [← hm] at bs2 bs3 bs4 hnx
        have q1 := Int.emod_nonneg n0 (show (w.length : Int) ≠ 0 by omega)
        have q2 := Int.emod_lt_of_pos n0 (show (0 : Int) < (w.length : Int) by omega)
        obtain ⟨p, hp⟩ : ∃ p, p = nth w (n0 % w.length).toNat := ⟨_, rfl⟩
        have hpm : p ∈ w := by rw [hp]; exact nth_mem (by omega)
        obtain ⟨x, hx⟩ : ∃ x, x = nth A c := ⟨_, rfl⟩
        have hxo : okAsk x := by rw [hx]; exact haa c bs1
        have hx2 := hxo.2
        obtain ⟨⟨b1, b2⟩, b3, b4⟩ := val_bd hxo (hws p hpm)
        have q3 := Int.emod_nonneg n1 (show 2 * x.w + 1 ≠ 0 by omega)
        have q4 := Int.emod_lt_of_pos n1 (show 0 < 2 * x.w + 1 by omega)
        have hlen : 1 ≤ (A.length : Int) ∧ (A.length : Int) ≤ 8 := by omega
        have hcl : (c : Int) < A.length := by omega
        have hcl2 : 0 ≤ (c : Int) ∧ (c : Int) ≤ (A.length : Int) - 1 := by omega
        have q5 : ¬ (w.length : Int) = 0 := by omega
        simp (disch := omega) [eLog, hwh, hnx, eq_true hlen, hcl, eq_true hcl2, bs1, q1, q2, q5, hwne, ← hp, ← hx, Und, eqf1, eqf2, ltT, -Bool.exists_bool]
        obtain ⟨y, hy⟩ : ∃ y, y = x.a * p.lo + x.b * p.hi := ⟨_, rfl⟩
        have hyv : valA x p = y := hy.symm
        rw [← hy]
        obtain ⟨v, hv⟩ : ∃ v, v = y + n1 % (2 * x.w + 1) - x.w := ⟨_, rfl⟩
        rw [← hv]
        have hlf := left_ok x false w v hxo hwl hws (by omega)
        have hle : cntW (w.map (valA x)) (v - x.w) (v + x.w) ≤ m := by
          rw [bs2, ← hx]
          have := win_le (V := w.map (valA x)) (lo := v - x.w) (d := 2 * x.w)
          rw [show v - x.w + 2 * x.w = v + x.w by omega] at this
          exact this
        have hge : 1 ≤ cntW (w.map (valA x)) (v - x.w) (v + x.w) := by
          apply Classical.byContradiction
          intro h
          have hz : cntW (w.map (valA x)) (v - x.w) (v + x.w) = 0 := by omega
          have h5 : y ∈ (w.map (valA x)).filter fun u => inI (v - x.w) (v + x.w) u := List.mem_filter.2 ⟨List.mem_map.2 ⟨p, hpm, hyv⟩, inI_iff.2 (by omega)⟩
          unfold cntW at hz
          rw [List.length_eq_zero_iff.1 hz] at h5
          cases h5
        unfold eAsk at hlf
        refine ⟨by omega, fun _ => ?_⟩
        simp (disch := omega) [hlf, hle, hge, Und, eqf1, eqf2, ltT, -Bool.exists_bool]
        refine ⟨by omega, fun _ => ?_⟩
        generalize hσ : AH.under (AH.set _ 3 _) 0 = σ0
        have z0 : σ0.lim = 0 := by rw [← hσ]; rfl
        clear hσ
        refine lp_loop pl (fun k fr σ => ∃ i : Nat, i + k = A.length ∧ fr = ⟨[(1, vl eAsk nA A), (7, .int .i64 c), (8, .int .i64 m), (10, vl eSpan false w), (15, .int .i64 i)], []⟩ ∧ σ.lim = 0)
          ⟨A.length, 0, by omega, rfl, z0⟩ ?_
        rintro k _ σ ⟨i, hi, rfl, s0⟩
        by_cases hiA : i < A.length
        · have hiA' : (i : Int) < A.length := by omega
          simp (disch := omega) [Und, s0, hiA', -Bool.exists_bool]
          have hao := haa i hiA
          have hao2 := hao.2
          have hmw : ∀ U, mostW (w.map (valA (nth A i))) (2 * (nth A i).w) U ≤ 3600 := fun U => by
            rcases mostW_at (V := w.map (valA (nth A i))) (d := 2 * (nth A i).w) (U := U) with h | ⟨v, _, h⟩
            · omega
            · rw [h]
              have := cntW_le (w.map (valA (nth A i))) v (v + 2 * (nth A i).w)
              rw [List.length_map] at this
              omega
          refine lp_loop pl (fun r fr σ => ∃ j : Nat, j + r = w.length ∧ fr = ⟨[(1, vl eAsk nA A), (7, .int .i64 c), (8, .int .i64 m), (10, vl eSpan false w), (15, .int .i64 i), (16, .int .i64 (mostW (w.map (valA (nth A i))) (2 * (nth A i).w) ((w.map (valA (nth A i))).take j))), (17, .int .i64 j)], []⟩ ∧ σ.lim = 0)
            ⟨w.length, 0, by omega, rfl, s0⟩ ?_
          rintro r _ τ ⟨j, hj, rfl, t0⟩
          by_cases hjw : j < w.length
          · have hjw' : (j : Int) < w.length := by omega
            obtain ⟨⟨d1, d2⟩, d3, d4⟩ := val_bd hao (hws _ (nth_mem hjw))
            obtain ⟨u, hu⟩ : ∃ u, (nth A i).a * (nth w j).lo + (nth A i).b * (nth w j).hi = u := ⟨_, rfl⟩
            have hlf2 := left_ok (nth A i) false w (u + (nth A i).w) hao hwl hws (by omega)
            rw [show u + (nth A i).w - (nth A i).w = u by omega, show u + (nth A i).w + (nth A i).w = u + 2 * (nth A i).w by omega] at hlf2
            unfold eAsk at hlf2
            have hms : mostW (w.map (valA (nth A i))) (2 * (nth A i).w) ((w.map (valA (nth A i))).take (j + 1)) = max (mostW (w.map (valA (nth A i))) (2 * (nth A i).w) ((w.map (valA (nth A i))).take j)) (cntW (w.map (valA (nth A i))) u (u + 2 * (nth A i).w)) := by
              rw [take_succ_nth (show j < (w.map (valA (nth A i))).length by rw [List.length_map]; exact hjw), mostW_app, nth_val hjw]
              show max _ (cntW _ (valA (nth A i) (nth w j)) (valA (nth A i) (nth w j) + _)) = _
              rw [show valA (nth A i) (nth w j) = u from hu]
            simp (disch := omega) [Und, t0, hiA, hiA', hjw, hjw', hu, hlf2, -Bool.exists_bool]
            exact ⟨r - 1, by omega, j + 1, by omega, by rw [hms]; omega, by omega⟩
          · obtain rfl : j = w.length := by omega
            rw [List.take_of_length_le (show (w.map (valA (nth A i))).length ≤ w.length by rw [List.length_map]; exact Nat.le_refl _)]
            have hwo : mostW (w.map (valA (nth A i))) (2 * (nth A i).w) (w.map (valA (nth A i))) = worA w (nth A i) := rfl
            rw [hwo]
            have c1 := bs3 i hiA
            have c1' : ¬ (worA w (nth A i) : Int) < m := by omega
            by_cases h1 : i < c
            · have c2 := bs4 i h1
              have h1' : (i : Int) < c := by omega
              have h2' : ¬ (worA w (nth A i) : Int) = m := by omega
              have h3' : ¬ (i : Int) = c := by omega
              simp (disch := omega) [Und, t0, c1', h1', h2', h3', -Bool.exists_bool]
              exact ⟨k - 1, by omega, i + 1, by omega, by omega⟩
            · have h1' : ¬ (i : Int) < c := by omega
              by_cases h2 : i = c
              · have h3' : (i : Int) = c := by omega
                have h4 : worA w (nth A i) = m := by rw [h2, bs2]
                have h4' : (worA w (nth A i) : Int) = m := by omega
                simp (disch := omega) [Und, t0, c1', h1', h3', h4, h4', -Bool.exists_bool]
                exact ⟨k - 1, by omega, i + 1, by omega, by omega⟩
              · have h3' : ¬ (i : Int) = c := by omega
                simp (disch := omega) [Und, t0, c1', h1', h3', -Bool.exists_bool]
                exact ⟨k - 1, by omega, i + 1, by omega, by omega⟩
        · obtain rfl : i = A.length := by omega
          simp (disch := omega) [Und, s0, -Bool.exists_bool]
    · rw [if_neg ha] at hnx
      by_cases hne : ptsL (canR E N S) = []
      · rw [if_pos hne] at hwh
        simp (disch := omega) [eLog, hwh, hnx, Und, -Bool.exists_bool]
      · rw [if_neg hne] at hwh
        simp (disch := omega) [eLog, hwh, hnx, Und, -Bool.exists_bool]
  · rw [if_neg hok] at hwh hnx
    simp (disch := omega) [eLog, hwh, hnx, Und, -Bool.exists_bool]
def askOK (x : Ask) : Prop := i64 x.a ∧ i64 x.b ∧ i64 x.w
theorem inv_asks {x : AV} (h : CellIs (.sl true [.int .i64, .int .i64, .int .i64]) x) : ∃ nl xs, Slice eAsk askOK x nl xs := by
  refine h.inv_sl fun cs hc => ?_
  obtain ⟨c1, _, rfl, h1, hc⟩ := hc.uncons
  obtain ⟨c2, _, rfl, h2, hc⟩ := hc.uncons
  obtain ⟨c3, rfl, h3⟩ := hc.one
  obtain ⟨n1, rfl, k1⟩ := h1.inv_int
  obtain ⟨n2, rfl, k2⟩ := h2.inv_int
  obtain ⟨n3, rfl, k3⟩ := h3.inv_int
  exact ⟨⟨n1, n2, n3⟩, rfl, k1, k2, k3⟩
theorem FixBest_ok (E N : Span) (nS : Bool) (S : List Stp) (nA : Bool) (A : List Ask) (n0 n1 : Int) (hs : Slice eStp stpOK (vl eStp nS S) nS S) (hE : i64 E.lo ∧ i64 E.hi) (hN : i64 N.lo ∧ i64 N.hi) (ha : Slice eAsk askOK (vl eAsk nA A) nA A) (hn0 : i64 n0) (hn1 : i64 n1) : ans prog O 11 [eLog E N nS S, vl eAsk nA A, .agg [.int .i64 n0, .int .i64 n1]] = some (.bool true) :=
  FixBest_law E N nS S nA A n0 n1 (szLog_of hs) (by have := ha.len; omega)
end Go.Oct.Fix
