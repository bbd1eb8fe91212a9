/- Tables of the moon: when they are valid. A row: its time (lo) and its distance (hi). -/
import Derived.Test.YtddkghgfbhhcdaaOCryB0
set_option maxRecDepth 100000
set_option maxHeartbeats 2000000
set_option linter.unusedVariables false
set_option linter.unusedSimpArgs false
namespace Go.Oct.Cry.Fx
open Go.Oct
@[simp] theorem within_ok (n l h : Int) : ans prog O 64 [.int .i64 n, .int .i64 l, .int .i64 h] = some (.bool (decide (l ≤ n ∧ n ≤ h))) := by
  refine fn_of' pl get64 (oo (by decide)) rfl rfl ?_
  simp +contextual (disch := omega) []
def isSp (s : Span) (l h : Int) : Prop := l ≤ s.lo ∧ s.lo ≤ s.hi ∧ s.hi ≤ h
instance (s : Span) (l h : Int) : Decidable (isSp s l h) := by unfold isSp; infer_instance
@[simp] theorem spanned_ok (s : Span) (l h : Int) : ans prog O 63 [.agg [.int .i64 s.lo, .int .i64 s.hi], .int .i64 l, .int .i64 h] = some (.bool (decide (isSp s l h))) := by
  refine fn_of' pl get63 (oo (by decide)) rfl rfl ?_
  unfold isSp
  simp +contextual (disch := omega) []
  rw [Bool.eq_iff_iff]
  simp only [Bool.and_eq_true, decide_eq_true_eq, and_assoc]
  exact (@decide_eq_true_iff _ _).symm
@[simp] theorem Spanned_okR (s : Span) (l h : Int) : ans prog O 15 [.agg [.int .i64 s.lo, .int .i64 s.hi], .int .i64 l, .int .i64 h] = some (.bool (decide (isSp s l h))) := by
  refine fn_of' pl get15 (oo (by decide)) rfl rfl ?_
  unfold isSp
  simp +contextual (disch := omega) []
  rw [Bool.eq_iff_iff]
  simp only [Bool.and_eq_true, decide_eq_true_eq, and_assoc]
  exact (@decide_eq_true_iff _ _).symm
def okRow (l : List Span) (i : Nat) : Prop := ((0 ≤ (nth l i).lo ∧ (nth l i).lo ≤ 100000) ∧ 0 ≤ (nth l i).hi ∧ (nth l i).hi ≤ 1000000) ∧
  (0 < i → (nth l (i - 1)).lo < (nth l i).lo ∧ (nth l (i - 1)).hi ≠ (nth l i).hi ∧ ((nth l 0).hi < (nth l 1).hi ↔ (nth l (i - 1)).hi < (nth l i).hi))
instance (l : List Span) (i : Nat) : Decidable (okRow l i) := by unfold okRow; infer_instance
def tabTo (l : List Span) (n : Nat) : Prop := (2 ≤ (l.length : Int) ∧ (l.length : Int) ≤ 12) ∧ ∀ i, i < n → okRow l i
instance (l : List Span) (n : Nat) : Decidable (tabTo l n) := by unfold tabTo; infer_instance
abbrev okTab (l : List Span) : Prop := tabTo l l.length
theorem tabTo_succ {l : List Span} {n : Nat} : tabTo l (n + 1) ↔ tabTo l n ∧ okRow l n := by
  unfold tabTo
  constructor
  · rintro ⟨h1, h2⟩
    exact ⟨⟨h1, fun i hi => h2 i (by omega)⟩, h2 n (by omega)⟩
  · rintro ⟨⟨h1, h2⟩, h3⟩
    refine ⟨h1, fun i hi => ?_⟩
    by_cases e : i = n
    · rw [e]; exact h3
    · exact h2 i (by omega)
theorem not_tab {l : List Span} {n : Nat} (hn : n < l.length) (h : ¬ okRow l n) : ¬ okTab l := fun ho => h (ho.2 n hn)
theorem isTable_ok (nl : Bool) (l : List Span) (hx : l.length < 2 ^ 62) : ans prog O 70 [vl eSpan nl l] = some (.bool (decide (okTab l))) := by
  by_cases hl : 2 ≤ (l.length : Int) ∧ (l.length : Int) ≤ 12
  · have h1 : (1 : Int) < l.length := by omega
    have h2 : 1 < l.length := by omega
    have h3 : 0 < l.length := by omega
    refine fn_of' pl get70 (oo (by decide)) rfl rfl ?_
    simp (disch := omega) [hl, h1, h2, h3, -Bool.exists_bool]
    refine lp_loop pl (fun k fr σ => ∃ j : Nat, j + k = l.length ∧ fr = ⟨[(0, vl eSpan nl l), (3, .bool (decide ((nth l 0).hi < (nth l 1).hi))), (19, vl eSpan nl l), (20, .int .i64 l.length), (21, .int .i64 j)], []⟩ ∧ σ.lim = 0 ∧ tabTo l j)
      ⟨l.length, 0, by omega, rfl, rfl, ⟨hl, fun i hi => by omega⟩⟩ ?_
    rintro k _ σ ⟨j, hj, rfl, hl0, ht⟩
    by_cases hjl : j < l.length
    · simp (disch := omega) [Und, hl0, hjl, -Bool.exists_bool]
      refine ⟨fun h => not_tab hjl fun hr => by have := hr.1; omega, fun a1 a2 a3 a4 => ⟨fun h => ⟨by omega, by omega⟩, fun h _ => ⟨by omega, by omega⟩, fun h _ _ => ⟨by omega, by omega⟩, fun h hc => not_tab hjl fun hr => ?_, fun hc => ⟨k - 1, by omega, j + 1, by omega, by omega, tabTo_succ.2 ⟨ht, ⟨⟨by omega, by omega⟩, by omega, by omega⟩, fun h => ?_⟩⟩⟩⟩
      · obtain ⟨b1, b2, b3⟩ := hr.2 h
        rcases hc with (hc | hc) | hc
        · omega
        · exact b2 hc.symm
        · exact hc b3.symm
      · obtain ⟨⟨b1, b2⟩, b3⟩ := hc h
        exact ⟨b1, fun e => b2 e.symm, b3.symm⟩
    · obtain rfl : j = l.length := by omega
      simp (disch := omega) [Und, hl0, ht, -Bool.exists_bool]
  · have h0 : ¬ okTab l := fun h => hl h.1
    refine fn_of' pl get70 (oo (by decide)) rfl rfl ?_
    simp (disch := omega) [hl, h0, -Bool.exists_bool]
end Go.Oct.Cry.Fx
