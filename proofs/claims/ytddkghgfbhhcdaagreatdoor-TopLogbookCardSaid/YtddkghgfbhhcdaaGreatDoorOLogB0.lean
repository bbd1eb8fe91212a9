/- What the helpers of the specifications answer. -/
import Derived.Test.YtddkghgfbhhcdaaGreatDoorOLogO
set_option maxRecDepth 100000
set_option linter.unusedVariables false
set_option linter.unusedSimpArgs false
namespace Go.Oct.Log
open Go.Oct
@[simp] theorem In_ok (n l h : Int) : ans prog O 10 [.int .i64 n, .int .i64 l, .int .i64 h] = some (.bool (decide (l ≤ n ∧ n ≤ h))) := by
  refine fn_of' pl get10 (oo (by decide)) rfl rfl ?_
  simp +contextual (disch := omega) []
/-- A remainder from 0 on. -/
@[simp] theorem Mod_ok (n b : Int) (hb : 0 < b) (hb2 : b ≤ 9223372036854775807) : ans prog O 5 [.int .i64 n, .int .i64 b] = some (.int .i64 (n % b)) := by
  refine fn_of' pl get5 (oo (by decide)) rfl rfl ?_
  simp +contextual (disch := omega) []
  have h1 := Int.lt_tmod_of_pos n hb
  have h2 := Int.tmod_lt_of_pos n hb
  have h3 := Int.mul_tdiv_add_tmod n b
  have h4 := Int.mul_add_emod_self_left b (n.tdiv b) (n.tmod b)
  rw [h3] at h4
  refine ⟨by omega, fun h => ?_, fun h => ?_⟩
  · rw [w64_id _ (by omega) (by omega), h4, ← Int.add_emod_right, Int.emod_eq_of_lt (by omega) (by omega)]
  · rw [h4, Int.emod_eq_of_lt (by omega) (by omega)]
@[simp] theorem Same_ok (a b : Bool) (xs ys : List Int) (hx : xs.length < 2 ^ 62) : ans prog O 14 [vs a xs, vs b ys] = some (.bool (decide (xs = ys))) := by
  refine fn_of' pl get14 (oo (by decide)) rfl rfl ?_
  simp +contextual (disch := omega) []
  refine ⟨fun h e => h (by rw [e]), fun h => ?_⟩
  refine lp_count pl xs.length (fun j => [(0, vs a xs), (1, vs b ys), (5, .int .i64 j)]) (fun _ => ⟨0, 0, .leaf⟩) (fun j => ∀ i, i < j → nth xs i = nth ys i) (by simp) ?_
  intro j hj hi
  have h' : xs.length = ys.length := by omega
  simp +contextual (disch := omega) [Und]
  refine ⟨fun h1 => ⟨by omega, fun h2 e => h2 (by rw [e]), fun h2 i hi' => ?_⟩, fun h1 => ext_nth h' (fun i h3 => hi i (by omega))⟩
  by_cases e : i = j
  · rw [e, h2]
  · exact hi i (by omega)
@[simp] theorem Pick_ok (nl : Bool) (xs : List Int) (n : Int) (hx : xs.length < 2 ^ 62) : ans prog O 17 [vs nl xs, .int .i64 n] = some (.int .i64 (nth xs (n % (xs.length : Int)).toNat)) := by
  refine fn_of' pl get17 (oo (by decide)) rfl rfl ?_
  simp +contextual (disch := omega) [-List.length_eq_zero_iff, -Int.natCast_eq_zero]
  refine ⟨fun h => ?_, fun h => ⟨Int.emod_nonneg _ (by omega), Int.emod_lt_of_pos _ (by omega)⟩⟩
  have : xs = [] := List.eq_nil_of_length_eq_zero (by omega)
  subst this
  simp [nth]
/-- Where a number is first in a list, from m on; -1: nowhere. -/
def pfrom (xs : List Int) (n : Int) (m : Nat) : Int := if n ∈ xs.drop m then (m : Int) + ((xs.drop m).idxOf n : Int) else -1
def place (xs : List Int) (n : Int) : Int := pfrom xs n 0
/-- Numbers that rise, from 0 to below another one. -/
def Rises (xs : List Int) (n : Int) (m : Nat) : Prop := ∀ i, i < m → (0 ≤ nth xs i ∧ nth xs i ≤ n - 1) ∧ (0 < i → nth xs (i - 1) < nth xs i)
instance (xs : List Int) (n : Int) (m : Nat) : Decidable (Rises xs n m) := by unfold Rises; infer_instance
end Go.Oct.Log
