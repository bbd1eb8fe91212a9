/- Voyages: when they are valid. The specification's Rate. -/
import Derived.Test.YtddkghgfbhhcdaaOCryRate
set_option maxRecDepth 100000
set_option maxHeartbeats 1000000
set_option linter.unusedVariables false
set_option linter.unusedSimpArgs false
namespace Go.Oct.Cry
open Go.Oct
def daysTo (T : List Int) (D : List Span) (n : Nat) : Prop := (1 ≤ (D.length : Int) ∧ (D.length : Int) ≤ 60) ∧ ∀ i, i < n → isIn (nth D i) (nth T 0) (nth T (T.length - 1))
instance (T : List Int) (D : List Span) (n : Nat) : Decidable (daysTo T D n) := by unfold daysTo; infer_instance
abbrev okDays (T : List Int) (D : List Span) : Prop := daysTo T D D.length
theorem daysTo_succ {T : List Int} {D : List Span} {n : Nat} : daysTo T D (n + 1) ↔ daysTo T D n ∧ isIn (nth D n) (nth T 0) (nth T (T.length - 1)) := by
  unfold daysTo
  constructor
  · rintro ⟨h1, h2⟩; exact ⟨⟨h1, fun i hi => h2 i (by omega)⟩, h2 n (by omega)⟩
  · rintro ⟨⟨h1, h2⟩, h3⟩
    refine ⟨h1, fun i hi => ?_⟩
    by_cases e : i = n
    · rw [e]; exact h3
    · exact h2 i (by omega)
def askE (T : List Int) (R : List Span) (a e : Span) (D : List Span) : Int := if okClk T R a e then (if okDays T D then 0 else 71) else 70
theorem opened_bad (nT nR nD : Bool) (T : List Int) (R : List Span) (a e : Span) (D : List Span) (hT : T.length < 2 ^ 62) (hR : R.length < 2 ^ 62) (hD : D.length < 2 ^ 62) (h : ¬ okClk T R a e) :
    ans prog O 56 [eClk nT nR T R a e, vl eSpan nD D] = some (.tuple [.agg [.vsl true [], .vsl true [], .int .i64 0, .int .i64 0, .int .i64 0, .int .i64 0], .int .i64 70]) := by
  refine fn_of' pl get56 (oo (by decide)) rfl rfl ?_
  simp +contextual (disch := omega) [h]
theorem opened_ok (nT nR nD : Bool) (T : List Int) (R : List Span) (a e : Span) (D : List Span) (hT : T.length < 2 ^ 62) (hR : R.length < 2 ^ 62) (hD : D.length < 2 ^ 62) (h : okClk T R a e) :
    ans prog O 56 [eClk nT nR T R a e, vl eSpan nD D] = some (.tuple [eClk nT nR T R a e, .int .i64 (if okDays T D then 0 else 71)]) := by
  have hl := (okT_of h).1
  refine fn_of' pl get56 (oo (by decide)) rfl rfl ?_
  simp +contextual (disch := omega) [h]
  refine lp_loop pl (fun k fr σ => ∃ j : Nat, j + k = D.length ∧ fr = ⟨[(4, .ptr (some (1, 0))), (7, .ptr (some (2, 0))), (8, .bool (decide (daysTo T D j))), (22, vl eSpan nD D), (23, .int .i64 D.length), (24, .int .i64 j)], []⟩ ∧ σ.lim = 0 ∧ 3 ≤ σ.next ∧
      σ.get 1 = some (.cells [.vsl true [], .vsl true [], .int .i64 0, .int .i64 0, .int .i64 0, .int .i64 0]) ∧ σ.get 2 = some (.cells [vs nT T, vl eSpan nR R, .int .i64 a.lo, .int .i64 a.hi, .int .i64 e.lo, .int .i64 e.hi]))
    ⟨D.length, 0, by omega, by simp [daysTo], by simp, by simp, by simp, by simp⟩ ?_
  rintro k _ σ ⟨j, hj, rfl, hl0, hn, hg1, hg2⟩
  have n2 : ¬ 2 = σ.next := by omega
  have n1 : 1 < σ.next := by omega
  have n0 : ¬ 1 = σ.next := by omega
  by_cases hd : daysTo T D j
  · simp (disch := omega) [Und, hl0, hn, hg1, hg2, n2, n1, n0, hd]
    refine ⟨fun h1 => ⟨h1, by omega, k - 1, by omega, j + 1, by omega, ⟨?_, by omega⟩, by omega⟩, fun h1 => ?_⟩
    · rw [Bool.eq_iff_iff]
      simp only [Bool.and_eq_true, decide_eq_true_eq, daysTo_succ, isIn]
      exact ⟨fun h3 => ⟨hd, h3⟩, fun h3 => h3.2⟩
    · obtain rfl : j = D.length := by omega
      exact hd
  · simp (disch := omega) [Und, hl0, hn, hg1, hg2, n2, n1, n0, hd]
    refine ⟨fun h1 => ⟨h1, k - 1, by omega, j + 1, by omega, ⟨fun h2 => hd (daysTo_succ.1 h2).1, by omega⟩, by omega⟩, fun h1 h2 => hd ⟨h2.1, fun i hi => h2.2 i (by omega)⟩⟩
end Go.Oct.Cry
