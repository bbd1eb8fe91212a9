/- Sawing: arguments that are not valid. -/
import Derived.Test.YtpgjndgpackffaaDoorOShopSawN
set_option maxRecDepth 100000
set_option maxHeartbeats 4000000
set_option linter.unusedVariables false
set_option linter.unusedSimpArgs false
namespace Go.Oct.Shop
open Go.Oct
theorem sawCX_ok {nl : Bool} {L : List Int} (hl : L.length ≤ 16) (hx : ¬ ∀ x ∈ L, 1 ≤ x ∧ x ≤ 10000) : ans prog O 66 [vs nl L, .func (.func 67) [] []] = some (.bool true) := by
  obtain ⟨q, hq, hbad⟩ : ∃ q, q < L.length ∧ ¬ (1 ≤ nth L q ∧ nth L q ≤ 10000) := by
    apply Classical.byContradiction
    intro hc
    refine hx fun x h => ?_
    obtain ⟨q, h1, rfl⟩ := mem_nth.1 h
    exact Decidable.byContradiction fun h2 => hc ⟨q, h1, h2⟩
  obtain ⟨v, ⟨r, rfl, hr⟩, hi⟩ : ∃ v, (∃ r : Int, v = .int .i64 r ∧ 0 ≤ r) ∧ ans prog O 87 [vs nl L, .func (.func 67) [] []] = some v := by
    refine fn_ex pl _ get87 (oo (by decide)) rfl rfl ?_
    simp (disch := omega) [-Bool.exists_bool]
    refine lp_loop pl (fun k fr σ => ∃ j : Nat, j + k = L.length ∧ j ≤ q ∧ fr = ⟨[(0, vs nl L), (1, .func (.func 67) [] []), (7, .int .i64 L.length), (8, .int .i64 j)], []⟩) ⟨L.length, 0, by omega, by omega, rfl⟩ ?_
    rintro k _ σ ⟨j, hj, hjq, rfl⟩
    have hjl : j < L.length := by omega
    have h2 := saw1_ok (nth L j)
    by_cases h1 : 1 ≤ nth L j ∧ nth L j ≤ 10000
    · rw [decide_eq_true h1] at h2
      simp (disch := omega) [Und, hjl, h2, -Bool.exists_bool]
      have : j ≠ q := fun e => hbad (e ▸ h1)
      exact ⟨k - 1, by omega, j + 1, by omega, by omega, by omega⟩
    · rw [decide_eq_false h1] at h2
      simp (disch := omega) [Und, hjl, h2, -Bool.exists_bool]
  refine fn_of' pl get66 (oo (by decide)) rfl rfl ?_
  simp (disch := omega) [hi, hr]
instance (bar cut : Int) (L : List Int) : Decidable (okSaw bar cut L) := by unfold okSaw; infer_instance
theorem SawX_ok {nl : Bool} {L : List Int} {bar cut : Int} (hL : L.length < 2 ^ 62) (h : ¬ okSaw bar cut L) : ans prog O 19 [.int .i64 bar, .int .i64 cut, vs nl L] = some (.tuple [.vsl true [], .int .i64 0, .int .i64 104]) := by
  refine fn_of' pl get19 (oo (by decide)) rfl rfl ?_
  by_cases h1 : 1 ≤ bar ∧ bar ≤ 10000
  · by_cases h2 : 0 ≤ cut ∧ cut ≤ 1000
    · by_cases h3 : 1 ≤ (L.length : Int) ∧ (L.length : Int) ≤ 16
      · have hx : ¬ ∀ x ∈ L, 1 ≤ x ∧ x ≤ 10000 := fun hx => h ⟨⟨h1, h2, h3⟩, hx⟩
        have hc := sawCX_ok (nl := nl) (by omega) hx
        simp (disch := omega) [h1, h2, h3, hc]
      · simp (disch := omega) [h1, h2, h3]
    · simp (disch := omega) [h1, h2]
  · simp (disch := omega) [h1]
end Go.Oct.Shop
