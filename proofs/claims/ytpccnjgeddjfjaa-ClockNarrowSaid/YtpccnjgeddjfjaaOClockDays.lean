/- Voyages: when they are valid. The specification's Rate. -/
import Derived.Test.YtpccnjgeddjfjaaOClockRate
set_option maxRecDepth 100000
set_option maxHeartbeats 1000000
set_option linter.unusedVariables false
set_option linter.unusedSimpArgs false
namespace Go.Oct.Clock
open Go.Oct
theorem rv_congr {T : List Int} {r r' : Nat → Int} {t : Int} {k : Nat} (hk : At T t k) (h : ∀ i, i < T.length → r i = r' i) : rv T r t k = rv T r' t k := by
  have h1 := hk.lt
  unfold rv
  by_cases e : nth T k = t
  · rw [if_pos e, if_pos e]; exact h k h1
  · rw [if_neg e, if_neg e, h k h1, h (k + 1) (hk.up.resolve_left e).1]
theorem rends_ok {nT : Bool} {T : List Int} {R : List Span} {a e : Span} (b : Bool) (h : okClk T R a e) {t : Int} (h1 : nth T 0 ≤ t) (h2 : t ≤ nth T (T.length - 1)) :
    ans prog O 55 [vs nT T, vs (ends b R).isEmpty (ends b R), .int .i64 t] = some (.int .i64 (rt T (fun i => if b then (nth R i).hi else (nth R i).lo) t)) := by
  have hl : R.length = T.length := by have := h.1.2.1; omega
  have hk := kOf_at (okT_of h) h1 h2
  rw [rrate_ok nT _ T (ends b R) t _ (okT_of h) hk (by rw [ends_len, hl]) (fun i hi => by
    have := rows_bd h i hi
    rw [ends_nth (by omega)]
    split <;> omega)]
  unfold rt
  rw [rv_congr hk fun i hi => ends_nth (b := b) (R := R) (by omega)]
@[simp] theorem RateR_ok (nT nR : Bool) (T : List Int) (R : List Span) (a e : Span) (t d : Int) (hT : T.length < 2 ^ 62) (hR : R.length < 2 ^ 62) :
    ans prog O 16 [eClk nT nR T R a e, .int .i64 t, .int .i64 d] = some (.tuple [eSpan (rateV T R a e t d).1, .int .i64 (rateV T R a e t d).2]) := by
  refine fn_of' pl get16 (oo (by decide)) rfl rfl ?_
  by_cases h : okClk T R a e
  · have hl := (okT_of h).1
    have hRl : R.length = T.length := by have := h.1.2.1; omega
    by_cases h2 : inR T t d
    · have hv : rateV T R a e t d = (rateS T R a t d, 0) := by unfold rateV; rw [if_pos h, if_pos h2]
      obtain ⟨⟨h3, h4⟩, h5, h6⟩ := id h2
      have hlo := rends_ok (nT := nT) false h h3 h4
      have hhi := rends_ok (nT := nT) true h h3 h4
      simp only [Bool.false_eq_true, if_false, if_true] at hlo hhi
      rw [hv]
      simp (disch := omega) [h, h3, h4, h5, h6, hlo, hhi]
      have q1 := rt_bd (okT_of h) h3 h4 (fun i hi => (rows_bd h i hi).1)
      have q2 := rt_bd (okT_of h) h3 h4 (fun i hi => (rows_bd h i hi).2)
      have ha := h.1.2.2.1
      unfold isIn at ha
      have m1 := mul_bd (a := a.lo) (b := d) (A := 1000) (B := 59) (by omega) (by omega) h5 h6 (by omega)
      have m2 := mul_bd (a := a.hi) (b := d) (A := 1000) (B := 59) (by omega) (by omega) h5 h6 (by omega)
      rw [w64_id (a.lo * d) (by omega) (by omega), w64_id (a.hi * d) (by omega) (by omega), w64_id _ (by omega) (by omega), w64_id _ (by omega) (by omega)]
      exact ⟨by omega, ⟨by omega, by omega⟩, rfl⟩
    · have hv : rateV T R a e t d = (⟨0, 0⟩, 7) := by unfold rateV; rw [if_pos h, if_neg h2]
      rw [hv]
      unfold inR at h2
      simp (disch := omega) [h]
      exact ⟨by omega, ⟨by omega, by omega⟩, fun _ => rfl, fun hc => absurd hc h2⟩
  · have hv : rateV T R a e t d = (⟨0, 0⟩, 70) := by unfold rateV; rw [if_neg h]
    rw [hv]
    simp +contextual (disch := omega) [h, eSpan]
def daysTo (T : List Int) (D : List Span) (n : Nat) : Prop := (1 ≤ (D.length : Int) ∧ (D.length : Int) ≤ 60) ∧ ∀ i, i < n → isIn (nth D i) (nth T 0) (nth T (T.length - 1))
instance (T : List Int) (D : List Span) (n : Nat) : Decidable (daysTo T D n) := by unfold daysTo; infer_instance
abbrev okDays (T : List Int) (D : List Span) : Prop := daysTo T D D.length
theorem daysTo_succ {T : List Int} {D : List Span} {n : Nat} : daysTo T D (n + 1) ↔ daysTo T D n ∧ isIn (nth D n) (nth T 0) (nth T (T.length - 1)) := by
  unfold daysTo
  constructor
  · rintro ⟨h1, h2⟩; exact ⟨⟨h1, fun i hi => h2 i (by omega)⟩, h2 n (by omega)⟩
  · rintro ⟨⟨h1, h2⟩, h3⟩
    refine ⟨h1, fun i hi => ?_⟩
    by_cases e : i = n
    · rw [e]; exact h3
    · exact h2 i (by omega)
def askE (T : List Int) (R : List Span) (a e : Span) (D : List Span) : Int := if okClk T R a e then (if okDays T D then 0 else 71) else 70
@[simp] theorem Asked_ok (nT nR nD : Bool) (T : List Int) (R : List Span) (a e : Span) (D : List Span) (hT : T.length < 2 ^ 62) (hR : R.length < 2 ^ 62) (hD : D.length < 2 ^ 62) :
    ans prog O 61 [eClk nT nR T R a e, vl eSpan nD D] = some (.int .i64 (askE T R a e D)) := by
  unfold askE
  refine fn_of' pl get61 (oo (by decide)) rfl rfl ?_
  by_cases h : okClk T R a e
  · have hl := (okT_of h).1
    rw [if_pos h]
    simp +contextual (disch := omega) [h]
    refine lp_count pl D.length (fun j => [(1, vl eSpan nD D), (2, .ptr (some (0, 0))), (6, .bool (decide (daysTo T D j))), (7, .int .i64 j)]) (fun _ => _) (fun _ => True) ⟨?_, rfl, trivial⟩ ?_
    · simp [daysTo]
    intro j hj _
    simp (disch := omega) [Und]
    refine ⟨fun h1 h2 => ⟨h2, by omega, ⟨by omega, by omega⟩, h2, ?_⟩, fun h1 => ⟨fun h2 h3 => h2 ⟨h3.1, fun i hi => h3.2 i (by omega)⟩, fun h2 => ?_⟩⟩
    · rw [Bool.eq_iff_iff]
      simp only [Bool.and_eq_true, decide_eq_true_eq, daysTo_succ, isIn]
      exact ⟨fun h3 => ⟨h1, h3⟩, fun h3 => h3.2⟩
    · have := h1 h2
      obtain rfl : j = D.length := by omega
      exact h2
  · rw [if_neg h]
    simp +contextual (disch := omega) [h]
theorem opened_bad (nT nR nD : Bool) (T : List Int) (R : List Span) (a e : Span) (D : List Span) (hT : T.length < 2 ^ 62) (hR : R.length < 2 ^ 62) (hD : D.length < 2 ^ 62) (h : ¬ okClk T R a e) :
    ans prog O 58 [eClk nT nR T R a e, vl eSpan nD D] = some (.tuple [.agg [.vsl true [], .vsl true [], .int .i64 0, .int .i64 0, .int .i64 0, .int .i64 0], .int .i64 70]) := by
  refine fn_of' pl get58 (oo (by decide)) rfl rfl ?_
  simp +contextual (disch := omega) [h]
theorem opened_ok (nT nR nD : Bool) (T : List Int) (R : List Span) (a e : Span) (D : List Span) (hT : T.length < 2 ^ 62) (hR : R.length < 2 ^ 62) (hD : D.length < 2 ^ 62) (h : okClk T R a e) :
    ans prog O 58 [eClk nT nR T R a e, vl eSpan nD D] = some (.tuple [eClk nT nR T R a e, .int .i64 (if okDays T D then 0 else 71)]) := by
  have hl := (okT_of h).1
  refine fn_of' pl get58 (oo (by decide)) rfl rfl ?_
  simp +contextual (disch := omega) [h]
  refine lp_loop pl (fun k fr σ => ∃ j : Nat, j + k = D.length ∧ fr = ⟨[(4, .ptr (some (1, 0))), (7, .ptr (some (2, 0))), (8, .bool (decide (daysTo T D j))), (22, vl eSpan nD D), (23, .int .i64 D.length), (24, .int .i64 j)], []⟩ ∧ σ.lim = 0 ∧ 3 ≤ σ.next ∧
      σ.get 1 = some (.cells [.vsl true [], .vsl true [], .int .i64 0, .int .i64 0, .int .i64 0, .int .i64 0]) ∧ σ.get 2 = some (.cells [vs nT T, vl eSpan nR R, .int .i64 a.lo, .int .i64 a.hi, .int .i64 e.lo, .int .i64 e.hi]))
    ⟨D.length, 0, by omega, by simp [daysTo], by simp, by simp, by simp, by simp⟩ ?_
  rintro k _ σ ⟨j, hj, rfl, hl0, hn, hg1, hg2⟩
  have n2 : ¬ 2 = σ.next := by omega
  have n1 : 1 < σ.next := by omega
  have n0 : ¬ 1 = σ.next := by omega
  by_cases hd : daysTo T D j
  · simp (disch := omega) [Und, hl0, hn, hg1, hg2, n2, n1, n0, hd]
    refine ⟨fun h1 => ⟨h1, by omega, k - 1, by omega, j + 1, by omega, ⟨?_, by omega⟩, by omega⟩, fun h1 => ?_⟩
    · rw [Bool.eq_iff_iff]
      simp only [Bool.and_eq_true, decide_eq_true_eq, daysTo_succ, isIn]
      exact ⟨fun h3 => ⟨hd, h3⟩, fun h3 => h3.2⟩
    · obtain rfl : j = D.length := by omega
      exact hd
  · simp (disch := omega) [Und, hl0, hn, hg1, hg2, n2, n1, n0, hd]
    refine ⟨fun h1 => ⟨h1, k - 1, by omega, j + 1, by omega, ⟨fun h2 => hd (daysTo_succ.1 h2).1, by omega⟩, by omega⟩, fun h1 h2 => hd ⟨h2.1, fun i hi => h2.2 i (by omega)⟩⟩
end Go.Oct.Clock
