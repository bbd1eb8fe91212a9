/- What the helpers of the specifications answer. -/
import Derived.Test.YtddkghgfbhhcdaaOCryO
set_option maxRecDepth 100000
set_option linter.unusedVariables false
set_option linter.unusedSimpArgs false
namespace Go.Oct.Cry
open Go.Oct
@[simp] theorem In_ok (n l h : Int) : ans prog O 29 [.int .i64 n, .int .i64 l, .int .i64 h] = some (.bool (decide (l ≤ n ∧ n ≤ h))) := by
  refine fn_of' pl get29 (oo (by decide)) rfl rfl ?_
  simp +contextual (disch := omega) []
/-- A remainder from 0 on. -/
@[simp] theorem Mod_ok (n b : Int) (hb : 0 < b) (hb2 : b ≤ 9223372036854775807) : ans prog O 10 [.int .i64 n, .int .i64 b] = some (.int .i64 (n % b)) := by
  refine fn_of' pl get10 (oo (by decide)) rfl rfl ?_
  simp +contextual (disch := omega) []
  have h1 := Int.lt_tmod_of_pos n hb
  have h2 := Int.tmod_lt_of_pos n hb
  have h3 := Int.mul_tdiv_add_tmod n b
  have h4 := Int.mul_add_emod_self_left b (n.tdiv b) (n.tmod b)
  rw [h3] at h4
  refine ⟨by omega, fun h => ?_, fun h => ?_⟩
  · rw [w64_id _ (by omega) (by omega), h4, ← Int.add_emod_right, Int.emod_eq_of_lt (by omega) (by omega)]
  · rw [h4, Int.emod_eq_of_lt (by omega) (by omega)]
@[simp] theorem SameSpans_ok (a b : Bool) (xs ys : List Span) (hx : xs.length < 2 ^ 62) : ans prog O 36 [vl eSpan a xs, vl eSpan b ys] = some (.bool (decide (xs = ys))) := by
  refine fn_of' pl get36 (oo (by decide)) rfl rfl ?_
  simp +contextual (disch := omega) []
  refine ⟨fun h e => h (by rw [e]), fun h => ?_⟩
  refine lp_count pl xs.length (fun j => [(0, vl eSpan a xs), (1, vl eSpan b ys), (5, .int .i64 j)]) (fun _ => ⟨0, 0, .leaf⟩) (fun j => ∀ i, i < j → nth xs i = nth ys i) (by simp) ?_
  intro j hj hi
  have h' : xs.length = ys.length := by omega
  simp +contextual (disch := omega) [Und]
  refine ⟨fun h1 => ⟨by omega, fun h2 e => ?_, fun h2 h3 i hi' => ?_⟩, fun h1 => ext_nth h' (fun i h3 => hi i (by omega))⟩
  · rw [e] at h2; simp at h2
  · by_cases e : i = j
    · subst e
      cases hp : nth xs i
      cases hq : nth ys i
      rw [hp, hq] at h2 h3
      simp at h2 h3
      rw [h2, h3]
    · exact hi i (by omega)
@[simp] theorem Spanned_ok (lo hi l h : Int) : ans prog O 15 [.agg [.int .i64 lo, .int .i64 hi], .int .i64 l, .int .i64 h] = some (.bool (decide (l ≤ lo ∧ lo ≤ hi ∧ hi ≤ h))) := by
  refine fn_of' pl get15 (oo (by decide)) rfl rfl ?_
  simp +contextual (disch := omega) [Bool.and_assoc]
@[simp] theorem Holds_ok (lo hi n : Int) : ans prog O 13 [.agg [.int .i64 lo, .int .i64 hi], .int .i64 n] = some (.bool (decide (lo ≤ n ∧ n ≤ hi))) := by
  refine fn_of' pl get13 (oo (by decide)) rfl rfl ?_
  simp +contextual (disch := omega) []
/-- Where a number is first in a list, from m on; -1: nowhere. -/
def pfrom (xs : List Int) (n : Int) (m : Nat) : Int := if n ∈ xs.drop m then (m : Int) + ((xs.drop m).idxOf n : Int) else -1
def place (xs : List Int) (n : Int) : Int := pfrom xs n 0
/-- Numbers that rise, from 0 to below another one. -/
def Rises (xs : List Int) (n : Int) (m : Nat) : Prop := ∀ i, i < m → (0 ≤ nth xs i ∧ nth xs i ≤ n - 1) ∧ (0 < i → nth xs (i - 1) < nth xs i)
instance (xs : List Int) (n : Int) (m : Nat) : Decidable (Rises xs n m) := by unfold Rises; infer_instance
end Go.Oct.Cry
