/- FixAsks: the sight that should be taken next, as the specification finds it; it answers true at all arguments. -/
import Derived.Test.YtddclpecmjibkaaDoorOFixTrcL
import Derived.Test.YtddclpecmjibkaaDoorOFixNxtW
import Derived.Test.YtddclpecmjibkaaDoorOFixBstL
set_option maxRecDepth 100000
set_option maxHeartbeats 8000000
set_option linter.unusedVariables false
set_option linter.unusedSimpArgs false
namespace Go.Oct.Fix
open Go.Oct
theorem cntW_snoc (V : List Int) (v lo hi : Int) : cntW (V ++ [v]) lo hi = cntW V lo hi + if lo ≤ v ∧ v ≤ hi then 1 else 0 := by
  induction V with
  | nil => rw [List.nil_append, cntW_cons]; simp [cntW]
  | cons x V ih => rw [List.cons_append, cntW_cons, cntW_cons, ih]; omega
theorem mostW_snoc (V : List Int) (d : Int) (U : List Int) (v : Int) : mostW V d (U ++ [v]) = max (mostW V d U) (cntW V v (v + d)) := by
  induction U with
  | nil => simp [mostW]
  | cons x U ih => simp only [List.cons_append, mostW, ih]; omega
theorem mostW_le (V : List Int) (d : Int) (U : List Int) : mostW V d U ≤ V.length := by
  induction U with
  | nil => exact Nat.zero_le _
  | cons x U ih => simp only [mostW]; have := cntW_le V x (x + d); omega
theorem worA_le (V : List Span) (x : Ask) : worA V x ≤ V.length := by
  have := mostW_le (V.map (valA x)) (2 * x.w) (V.map (valA x))
  rw [List.length_map] at this
  exact this
theorem prod_bd {a x : Int} (ha : -20 ≤ a ∧ a ≤ 20) (hx : 0 ≤ x ∧ x ≤ 59) : -1180 ≤ a * x ∧ a * x ≤ 1180 := by
  have h1 : a * x ≤ 20 * x := Int.mul_le_mul_of_nonneg_right ha.2 hx.1
  have h2 : -20 * x ≤ a * x := Int.mul_le_mul_of_nonneg_right ha.1 hx.1
  omega
theorem rworst_ok (x : Ask) (nw : Bool) (w : List Span) (hx : okAsk x) (hw : w.length ≤ 3600) (hs : ∀ q ∈ w, inSea q) : ans prog O 82 [eAsk x, vl eSpan nw w] = some (.int .i64 (worA w x)) := by
  obtain ⟨V, hV⟩ : ∃ V, V = w.map (valA x) := ⟨_, rfl⟩
  have hbd : ∀ j, j < w.length → (-1180 ≤ x.a * (nth w j).lo ∧ x.a * (nth w j).lo ≤ 1180) ∧ -1180 ≤ x.b * (nth w j).hi ∧ x.b * (nth w j).hi ≤ 1180 := fun j hj => by
    have h := hs _ (nth_mem hj)
    exact ⟨prod_bd hx.1.1 h.1, prod_bd hx.1.2.1 h.2⟩
  have hval : ∀ j, valA x (nth w j) = x.a * (nth w j).lo + x.b * (nth w j).hi := fun j => rfl
  have hxw := hx.2
  have hVl : V.length = w.length := by rw [hV, List.length_map]
  have hVn : ∀ j, j < w.length → nth V j = valA x (nth w j) := fun j hj => by rw [hV, nth_map (f := valA x) hj]
  refine fn_of' pl get82 (oo (by decide)) rfl rfl ?_
  simp (disch := omega) [eAsk, Und, -Bool.exists_bool]
  refine lp_loop pl (fun k fr σ => ∃ i : Nat, i + k = w.length ∧ fr = ⟨[(1, vl eSpan nw w), (2, .ptr (some (0, 0))), (5, .int .i64 (mostW V (2 * x.w) (V.take i))), (6, .int .i64 i)], []⟩ ∧ σ.lim = 0 ∧ σ.get 0 = some (.cells [.int .i64 x.a, .int .i64 x.b, .int .i64 x.w]))
    ⟨w.length, 0, by omega, by simp [mostW], by simp, by simp⟩ ?_
  rintro k _ σ ⟨i, hi, rfl, s0, sg⟩
  have l0 := AH.get_lt sg
  by_cases hiw : i < w.length
  · have hiw' : (i : Int) < w.length := by omega
    obtain ⟨⟨p1, p2⟩, p3, p4⟩ := hbd i hiw
    simp (disch := omega) [Und, eqf1, eqf2, s0, sg, l0, hiw, hiw', ltT, -Bool.exists_bool, -getElem?_pos]
    refine lp_loop pl (fun k fr υ => ∃ j : Nat, j + k = w.length ∧ fr = ⟨[(1, vl eSpan nw w), (2, .ptr (some (0, 0))), (5, .int .i64 (mostW V (2 * x.w) (V.take i))), (6, .int .i64 i), (7, .int .i64 (x.a * (nth w i).lo + x.b * (nth w i).hi)), (8, .int .i64 (cntW (V.take j) (valA x (nth w i)) (valA x (nth w i) + 2 * x.w))), (9, .int .i64 j)], []⟩ ∧ υ.lim = 0 ∧ υ.get 0 = some (.cells [.int .i64 x.a, .int .i64 x.b, .int .i64 x.w]))
      ⟨w.length, 0, by omega, by simp [cntW], s0, sg⟩ ?_
    rintro k2 _ υ ⟨j, hj, rfl, u0, ug⟩
    have lu := AH.get_lt ug
    by_cases hjw : j < w.length
    · have hjw' : (j : Int) < w.length := by omega
      obtain ⟨⟨q1, q2⟩, q3, q4⟩ := hbd j hjw
      have hcs := cntW_snoc (V.take j) (nth V j) (valA x (nth w i)) (valA x (nth w i) + 2 * x.w)
      rw [← take_succ_nth (by omega), hVn j hjw] at hcs
      have hcl := cntW_le (V.take j) (valA x (nth w i)) (valA x (nth w i) + 2 * x.w)
      rw [List.length_take] at hcl
      rw [hval i, hval j] at hcs
      rw [hval i] at hcl ⊢
      by_cases c : x.a * (nth w i).lo + x.b * (nth w i).hi ≤ x.a * (nth w j).lo + x.b * (nth w j).hi ∧ x.a * (nth w j).lo + x.b * (nth w j).hi - (x.a * (nth w i).lo + x.b * (nth w i).hi) ≤ 2 * x.w
      · rw [if_pos (by omega)] at hcs
        simp (disch := omega) [Und, eqf1, eqf2, u0, ug, lu, hjw, hjw', eq_true c, ltT, -Bool.exists_bool, -getElem?_pos]
        exact ⟨k2 - 1, by omega, j + 1, by omega, by rw [hcs]; exact ⟨by omega, by omega⟩⟩
      · rw [if_neg (by omega)] at hcs
        simp (disch := omega) [Und, eqf1, eqf2, u0, ug, lu, hjw, hjw', eq_false c, ltT, -Bool.exists_bool, -getElem?_pos]
        exact ⟨k2 - 1, by omega, j + 1, by omega, by rw [hcs]; exact ⟨by omega, by omega⟩⟩
    · obtain rfl : j = w.length := by omega
      have hms := mostW_snoc V (2 * x.w) (V.take i) (nth V i)
      rw [← take_succ_nth (by omega), hVn i hiw] at hms
      rw [List.take_of_length_le (show V.length ≤ w.length by omega)]
      simp (disch := omega) [Und, u0, ug, -Bool.exists_bool]
      exact ⟨k - 1, by omega, i + 1, by omega, by rw [hms]; omega, by omega⟩
  · obtain rfl : i = w.length := by omega
    rw [List.take_of_length_le (show V.length ≤ w.length by omega)]
    simp (disch := omega) [Und, s0, -Bool.exists_bool]
    unfold worA
    rw [hV]
theorem rNext_ok (E N : Span) (nS : Bool) (S : List Stp) (nA : Bool) (A : List Ask) (hz : szLog S) (hA : A.length < 2 ^ 62) : ans prog O 30 [eLog E N nS S, vl eAsk nA A] = some (nextV E N S A) := by
  have hck := rCheck_ok E N nS S hz
  have hwh := rWhere_ok E N nS S hz
  refine fn_of' pl get30 (oo (by decide)) rfl rfl ?_
  unfold whereV at hwh
  unfold eLog at hck hwh
  by_cases hok : okLog E N S
  · unfold nextV
    rw [if_pos hok] at hck hwh ⊢
    simp (disch := omega) [eLog, hck, Und, -Bool.exists_bool]
    generalize hb : (decide ((1 : Int) ≤ A.length) && decide ((A.length : Int) ≤ 8)) = b0
    have hC : b0 = true ↔ 1 ≤ A.length ∧ A.length ≤ 8 := by
      rw [← hb, Bool.and_eq_true, decide_eq_true_eq, decide_eq_true_eq]; omega
    clear hb
    have hokA : okAsks A ↔ b0 = true ∧ ∀ j, j < A.length → okAsk (nth A j) := by rw [hC]; exact Iff.rfl
    refine lp_loop pl (fun k fr σ => ∃ (i : Nat) (b : Bool), i + k = A.length ∧ fr = ⟨[(1, vl eAsk nA A), (2, .ptr (some (0, 0))), (8, .bool b), (9, .int .i64 i)], []⟩ ∧ (b = true ↔ b0 = true ∧ ∀ j, j < i → okAsk (nth A j)) ∧ σ.lim = 0 ∧ σ.get 0 = some (.cells [.int .i64 E.lo, .int .i64 E.hi, .int .i64 N.lo, .int .i64 N.hi, vl eStp nS S]))
      ⟨A.length, 0, b0, by omega, rfl, ⟨fun h => ⟨h, fun j hj => by omega⟩, fun h => h.1⟩, by simp, by simp⟩ ?_
    rintro k _ σ ⟨i, b, hi, rfl, hbi, s0, sg⟩
    have l0 := AH.get_lt sg
    cases b with
    | false =>
      have hno : ¬ okAsks A := fun h => by
        obtain ⟨h1, h2⟩ := hokA.1 h
        have := hbi.2 ⟨h1, fun j hj => h2 j (by omega)⟩
        cases this
      rw [if_neg hno]
      simp (disch := omega) [Und, s0, sg, l0, -Bool.exists_bool]
    | true =>
      obtain ⟨h1, h2⟩ := hbi.1 rfl
      by_cases hiA : i < A.length
      · have hiA' : (i : Int) < A.length := by omega
        have hln := rline_ok (nth A i).a (nth A i).b
        have step : ∀ b : Bool, (b = true ↔ okAsk (nth A i)) → (b = true ↔ b0 = true ∧ ∀ j, j < i + 1 → okAsk (nth A j)) := fun b hb => by
          rw [hb]
          constructor
          · intro h3
            refine ⟨h1, fun j hj => ?_⟩
            by_cases e : j = i
            · rw [e]; exact h3
            · exact h2 j (by omega)
          · intro h3; exact h3.2 i (by omega)
        by_cases c1 : okLine (nth A i).a (nth A i).b
        · rw [decide_eq_true c1] at hln
          simp (disch := omega) [Und, eqf1, eqf2, s0, sg, l0, hiA, hiA', hln, ltT, -Bool.exists_bool, -getElem?_pos]
          refine ⟨k - 1, by omega, i + 1, by omega, _, ⟨rfl, by omega⟩, step _ ?_⟩
          rw [Bool.and_eq_true, decide_eq_true_eq, decide_eq_true_eq]
          exact ⟨fun h => ⟨c1, h⟩, fun h => h.2⟩
        · rw [decide_eq_false c1] at hln
          simp (disch := omega) [Und, eqf1, eqf2, s0, sg, l0, hiA, hiA', hln, ltT, -Bool.exists_bool, -getElem?_pos]
          refine ⟨k - 1, by omega, i + 1, by omega, _, ⟨rfl, by omega⟩, step _ ⟨fun h => (by cases h), fun h => absurd h.1 c1⟩⟩
      · obtain rfl : i = A.length := by omega
        have hyes : okAsks A := hokA.2 ⟨h1, h2⟩
        rw [if_pos hyes]
        by_cases he : ptsL (canR E N S) = []
        · rw [if_pos he] at hwh ⊢
          simp (disch := omega) [Und, eqf1, eqf2, s0, sg, l0, hwh, ltT, -Bool.exists_bool, -getElem?_pos]
        · rw [if_neg he] at hwh ⊢
          obtain ⟨w, hw⟩ : ∃ w, w = ptsL (canR E N S) := ⟨_, rfl⟩
          have hwl : w.length ≤ 3600 := by rw [hw]; exact ptsTo_len _ _
          have hws : ∀ q ∈ w, inSea q := fun q hq => by rw [hw] at hq; exact (ptsL_iff.1 hq).1
          rw [← hw] at hwh ⊢
          simp (disch := omega) [Und, eqf1, eqf2, s0, sg, l0, hwh, ltT, -Bool.exists_bool, -getElem?_pos]
          refine lp_loop pl (fun k fr υ => ∃ (i : Nat) (c : Nat × Nat), i + k = A.length ∧ c = (if i = 0 then (0, w.length + 1) else bestA w A i) ∧ fr = ⟨[(1, vl eAsk nA A), (10, vl eSpan false w), (12, .int .i64 c.1), (13, .int .i64 c.2), (14, .int .i64 i)], []⟩ ∧ υ.lim = 0)
            ⟨A.length, 0, _, by omega, rfl, by simp, s0⟩ ?_
          rintro k2 _ υ ⟨j, c, hj, hc, rfl, u0⟩
          by_cases hjA : j < A.length
          · have hjA' : (j : Int) < A.length := by omega
            have hwo := rworst_ok (nth A j) false w (hyes.2 j hjA) hwl hws
            unfold eAsk at hwo
            have hle := worA_le w (nth A j)
            have hnx : bestA w A (j + 1) = if j = 0 ∨ worA w (nth A j) < (bestA w A j).2 then (j, worA w (nth A j)) else bestA w A j := rfl
            by_cases h1 : worA w (nth A j) < c.2
            · have h1' : (worA w (nth A j) : Int) < c.2 := by omega
              simp (disch := omega) [Und, eqf1, eqf2, u0, hjA, hjA', hwo, h1', h1, ltT, -Bool.exists_bool, -getElem?_pos]
              have hb : bestA w A (j + 1) = (j, worA w (nth A j)) := by
                rw [hnx]
                by_cases hj0 : j = 0
                · rw [if_pos (.inl hj0)]
                · rw [if_neg hj0] at hc
                  rw [if_pos (.inr (by rw [← hc]; exact h1))]
              exact ⟨k2 - 1, by omega, j + 1, by omega, by rw [if_neg (by omega), hb]; exact ⟨rfl, rfl, by omega⟩⟩
            · have h1' : ¬ (worA w (nth A j) : Int) < c.2 := by omega
              simp (disch := omega) [Und, eqf1, eqf2, u0, hjA, hjA', hwo, h1', h1, ltT, -Bool.exists_bool, -getElem?_pos]
              have hj0 : ¬ j = 0 := fun h => by rw [if_pos h] at hc; rw [hc] at h1; simp at h1; omega
              rw [if_neg hj0] at hc
              have hb : bestA w A (j + 1) = bestA w A j := by rw [hnx, if_neg (by rw [← hc]; omega)]
              exact ⟨k2 - 1, by omega, j + 1, by omega, by rw [if_neg (by omega), hb, hc]; exact ⟨rfl, rfl, by omega⟩⟩
          · obtain rfl : j = A.length := by omega
            have hA0 : ¬ A.length = 0 := by have := hyes.1.1; omega
            rw [if_neg hA0] at hc
            rw [← hc]
            simp (disch := omega) [Und, u0, -Bool.exists_bool]
  · unfold nextV
    rw [if_neg hok] at hck ⊢
    simp (disch := omega) [eLog, hck, Und, -Bool.exists_bool]
theorem FixAsks_law (E N : Span) (nS : Bool) (S : List Stp) (nA : Bool) (A : List Ask) (hz : szLog S) (hA : A.length < 2 ^ 62) : ans prog O 5 [eLog E N nS S, vl eAsk nA A] = some (.bool true) := by
  have h1 := Next_ok E N nS S nA A hz hA
  have h2 := rNext_ok E N nS S nA A hz hA
  have hs : ∃ a b c : Int, nextV E N S A = .tuple [.int .i64 a, .int .i64 b, .int .i64 c] := by
    unfold nextV
    split
    · split
      · split
        · exact ⟨_, _, _, rfl⟩
        · exact ⟨_, _, _, rfl⟩
      · exact ⟨_, _, _, rfl⟩
    · exact ⟨_, _, _, rfl⟩
  obtain ⟨a, b, c, hv⟩ := hs
  rw [hv] at h1 h2
  unfold eLog at h1 h2
  refine fn_of' pl get5 (oo (by decide)) rfl rfl ?_
  simp (disch := omega) [eLog, h1, h2, Und, -Bool.exists_bool]
theorem FixAsks_ok (E N : Span) (nS : Bool) (S : List Stp) (nA : Bool) (A : List Ask) (hs : Slice eStp stpOK (vl eStp nS S) nS S) (hE : i64 E.lo ∧ i64 E.hi) (hN : i64 N.lo ∧ i64 N.hi) (ha : Slice eAsk askOK (vl eAsk nA A) nA A) : ans prog O 5 [eLog E N nS S, vl eAsk nA A] = some (.bool true) :=
  FixAsks_law E N nS S nA A (szLog_of hs) (by have := ha.len; omega)
end Go.Oct.Fix
