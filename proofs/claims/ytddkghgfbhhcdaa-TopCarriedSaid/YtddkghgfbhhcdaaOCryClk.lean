/- Clocks: when they are valid; the temperatures of a table. -/
import Derived.Test.YtddkghgfbhhcdaaOCryB0
import Derived.Test.YtddkghgfbhhcdaaOT4
set_option maxRecDepth 100000
set_option maxHeartbeats 1000000
set_option linter.unusedVariables false
set_option linter.unusedSimpArgs false
namespace Go.Oct.Cry
open Go.Oct
/-- A clock. -/
abbrev eClk (nT nR : Bool) (T : List Int) (R : List Span) (a e : Span) : AV := .agg [vs nT T, vl eSpan nR R, .int .i64 a.lo, .int .i64 a.hi, .int .i64 e.lo, .int .i64 e.hi]
def isIn (s : Span) (l h : Int) : Prop := l ≤ s.lo ∧ s.lo ≤ s.hi ∧ s.hi ≤ h
instance (s : Span) (l h : Int) : Decidable (isIn s l h) := by unfold isIn; infer_instance
def okRow (T : List Int) (R : List Span) (i : Nat) : Prop := (0 ≤ nth T i ∧ nth T i ≤ 60) ∧ (0 < i → nth T (i - 1) < nth T i) ∧ isIn (nth R i) (-100000) 100000
instance (T : List Int) (R : List Span) (i : Nat) : Decidable (okRow T R i) := by unfold okRow; infer_instance
def okHead (T : List Int) (R : List Span) (a e : Span) : Prop := (2 ≤ (T.length : Int) ∧ (T.length : Int) ≤ 8) ∧ (R.length : Int) = T.length ∧ isIn a (-1000) 1000 ∧ isIn e (-10000000) 10000000
instance (T : List Int) (R : List Span) (a e : Span) : Decidable (okHead T R a e) := by unfold okHead; infer_instance
def okTo (T : List Int) (R : List Span) (a e : Span) (n : Nat) : Prop := okHead T R a e ∧ ∀ i, i < n → okRow T R i
instance (T : List Int) (R : List Span) (a e : Span) (n : Nat) : Decidable (okTo T R a e n) := by unfold okTo; infer_instance
abbrev okClk (T : List Int) (R : List Span) (a e : Span) : Prop := okTo T R a e T.length
theorem okTo_succ {T : List Int} {R : List Span} {a e : Span} {n : Nat} : okTo T R a e (n + 1) ↔ okTo T R a e n ∧ okRow T R n := by
  unfold okTo
  constructor
  · rintro ⟨h1, h2⟩; exact ⟨⟨h1, fun i hi => h2 i (by omega)⟩, h2 n (by omega)⟩
  · rintro ⟨⟨h1, h2⟩, h3⟩
    refine ⟨h1, fun i hi => ?_⟩
    by_cases e : i = n
    · rw [e]; exact h3
    · exact h2 i (by omega)
@[simp] theorem within_ok (n l h : Int) : ans prog O 61 [.int .i64 n, .int .i64 l, .int .i64 h] = some (.bool (decide (l ≤ n ∧ n ≤ h))) := by
  refine fn_of' pl get61 (oo (by decide)) rfl rfl ?_
  simp +contextual (disch := omega) []
@[simp] theorem spanned_ok (lo hi l h : Int) : ans prog O 111 [.agg [.int .i64 lo, .int .i64 hi], .int .i64 l, .int .i64 h] = some (.bool (decide (l ≤ lo ∧ lo ≤ hi ∧ hi ≤ h))) := by
  refine fn_of' pl get111 (oo (by decide)) rfl rfl ?_
  simp +contextual (disch := omega) [Bool.and_assoc]
def lastT (T : List Int) (j : Nat) : Int := if j = 0 then -1 else nth T (j - 1)
@[simp] theorem Check_ok (nT nR : Bool) (T : List Int) (R : List Span) (a e : Span) (hT : T.length < 2 ^ 62) (hR : R.length < 2 ^ 62) : ans prog O 110 [eClk nT nR T R a e] = some (.int .i64 (if okClk T R a e then 0 else 70)) := by
  refine fn_of' pl get110 (oo (by decide)) rfl rfl ?_
  simp +contextual (disch := omega) []
  refine lp_count pl T.length (fun j => [(1, .ptr (some (0, 0))), (3, .bool (decide (okTo T R a e j))), (4, .int .i64 (lastT T j)), (31, vs nT T), (32, .int .i64 T.length), (33, .int .i64 j)]) (fun _ => _) (fun _ => True) ⟨?_, rfl, trivial⟩ ?_
  · simp [okTo, okHead, isIn, lastT, Bool.and_assoc]
  intro j hj _
  simp +contextual (disch := omega) [Und]
  refine ⟨fun h1 => ⟨fun h2 _ _ => ?_, ?_, by simp [lastT]⟩, fun h1 => ?_⟩
  · have := h2.1.2.1; omega
  · rw [Bool.eq_iff_iff]
    simp only [Bool.and_eq_true, decide_eq_true_eq, okTo_succ, okRow, isIn]
    constructor
    · rintro ⟨⟨h2, h3, h4⟩, h5, h6, h7⟩
      have hl : -1 ≤ lastT T j ∧ lastT T j ≤ 60 := by
        unfold lastT
        split
        · omega
        · have := (h2.2 (j - 1) (by omega)).1; omega
      rw [w64_id _ (by omega) (by omega)] at h3
      refine ⟨h2, ⟨by omega, h4⟩, fun h8 => ?_, h5, h6, h7⟩
      unfold lastT at h3
      rw [if_neg (by omega)] at h3
      omega
    · rintro ⟨h2, ⟨h3, h4⟩, h5, h6, h7, h8⟩
      have hl : -1 ≤ lastT T j ∧ lastT T j ≤ 60 ∧ lastT T j < nth T j := by
        unfold lastT
        split
        · omega
        · have := (h2.2 (j - 1) (by omega)).1; have := h5 (by omega); omega
      rw [w64_id _ (by omega) (by omega)]
      exact ⟨⟨h2, by omega, h4⟩, h6, h7, h8⟩
  · obtain rfl : j = T.length := by omega
    exact ⟨fun h => h, fun h => h⟩
end Go.Oct.Cry
