/- What numbers choose of the lengths: not more than the most. -/
import Derived.Test.YtpgjndgpackffaaDoorOShopSawB
set_option maxRecDepth 100000
set_option maxHeartbeats 4000000
set_option linter.unusedVariables false
set_option linter.unusedSimpArgs false
namespace Go.Oct.Shop
open Go.Oct
theorem sawn_ok {nl nb : Bool} {L B : List Int} {bar cut : Int} (h : okSaw bar cut L) (hB : B.length < 2 ^ 62) :
    ∃ v, (∃ u : Int, v = .int .i64 u ∧ u ≤ best cut L bar false) ∧ ans prog O 37 [.int .i64 bar, .int .i64 cut, vs nl L, vs nb B] = some v := by
  obtain ⟨⟨hb, hc, hl⟩, hx⟩ := h
  have hx1 : ∀ x ∈ L, 1 ≤ x := fun x hx' => (hx x hx').1
  refine fn_ex pl _ get37 (oo (by decide)) rfl rfl ?_
  simp (disch := omega) [-Bool.exists_bool]
  refine lp_loop pl (fun k fr σ => ∃ (i : Nat) (u c : Int), i + k = L.length ∧ 0 ≤ u ∧ u ≤ bar ∧ 0 ≤ c ∧ c ≤ i ∧ u + best cut (L.drop i) (bar - u) (decide (0 < c)) ≤ best cut L bar false ∧ fr = ⟨[(0, .int .i64 bar), (1, .int .i64 cut), (2, vs nl L), (3, vs nb B), (9, .int .i64 u), (10, .int .i64 c), (11, .int .i64 i)], []⟩ ∧ σ.lim = 0)
    ⟨L.length, 0, 0, 0, by omega, by omega, by omega, by omega, by omega, by simp, rfl, rfl⟩ ?_
  rintro k _ σ ⟨i, u, c, hi, hu0, hu1, hc0, hci, hbest, rfl, hl0⟩
  by_cases hil : i < L.length
  · have hxi := hx _ (nth_mem hil)
    have hbd := best_drop (cut := cut) (L := L) (bar := bar - u) (sn := decide (0 < c)) hil
    have hnn := best_nn hc.1 hx1 (i + 1) (bar - u) (decide (0 < c))
    generalize hp : nth B ((i : Int) % (B.length : Int)).toNat = p
    by_cases hc1 : 0 < c
    · have e1 : nd cut (decide (0 < c)) (nth L i) = nth L i + cut := by unfold nd; simp [hc1]
      rw [e1] at hbd
      by_cases ht : 0 < p % 3 ∧ u + nth L i + cut ≤ bar
      · rw [if_pos (by omega)] at hbd
        simp (disch := omega) [Und, hl0, hil, hc1, hp, ht, -Bool.exists_bool]
        refine ⟨k - 1, by omega, i + 1, by omega, u + nth L i + cut, by omega, by omega, c + 1, by omega, by omega, ?_, by omega⟩
        rw [show bar - (u + nth L i + cut) = bar - u - (nth L i + cut) by omega, decide_eq_true (show (0 : Int) < c + 1 by omega)]
        omega
      · simp (disch := omega) [Und, hl0, hil, hc1, hp, -Bool.exists_bool]
        exact ⟨fun a b => absurd ⟨a, b⟩ ht, fun _ => ⟨k - 1, by omega, i + 1, by omega, u, hu0, hu1, c, hc0, by omega, by omega, by omega⟩⟩
    · have e1 : nd cut (decide (0 < c)) (nth L i) = nth L i := by unfold nd; simp [hc1]
      rw [e1] at hbd
      by_cases ht : 0 < p % 3 ∧ u + nth L i ≤ bar
      · rw [if_pos (by omega)] at hbd
        simp (disch := omega) [Und, hl0, hil, hc1, hp, ht, -Bool.exists_bool]
        refine ⟨k - 1, by omega, i + 1, by omega, u + nth L i, by omega, by omega, c + 1, by omega, by omega, ?_, by omega⟩
        rw [show bar - (u + nth L i) = bar - u - nth L i by omega, decide_eq_true (show (0 : Int) < c + 1 by omega)]
        omega
      · simp (disch := omega) [Und, hl0, hil, hc1, hp, -Bool.exists_bool]
        exact ⟨fun a b => absurd ⟨a, b⟩ ht, fun _ => ⟨k - 1, by omega, i + 1, by omega, u, hu0, hu1, c, hc0, by omega, by omega, by omega⟩⟩
  · obtain rfl : i = L.length := by omega
    rw [List.drop_length] at hbest
    simp only [best] at hbest
    simp (disch := omega) [Und, hl0, -Bool.exists_bool]
    omega
end Go.Oct.Shop
