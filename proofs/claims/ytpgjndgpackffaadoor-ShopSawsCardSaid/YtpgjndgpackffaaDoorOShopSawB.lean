/- More can be used of a longer bar, and of more lengths, plain; what numbers choose. -/
import Derived.Test.YtpgjndgpackffaaDoorOShopSawP
set_option maxRecDepth 100000
set_option maxHeartbeats 4000000
set_option linter.unusedVariables false
set_option linter.unusedSimpArgs false
namespace Go.Oct.Shop
open Go.Oct
theorem best_nn' {cut : Int} (hc : 0 ≤ cut) {xs : List Int} (hx : ∀ x ∈ xs, 1 ≤ x) (bar : Int) (sn : Bool) : 0 ≤ best cut xs bar sn := (best_bd hc hx).1
theorem best_bar {cut : Int} (hc : 0 ≤ cut) : ∀ {xs : List Int} (hx : ∀ x ∈ xs, 1 ≤ x) {bar bar' : Int} {sn : Bool}, bar ≤ bar' → best cut xs bar sn ≤ best cut xs bar' sn
  | [], _, _, _, _, _ => Int.le_refl _
  | x :: xs, hx, bar, bar', sn, h => by
    have h0 : ∀ y ∈ xs, 1 ≤ y := fun y hy => hx y (List.mem_cons_of_mem _ hy)
    have h1 := best_bar hc h0 (sn := sn) h
    have h2 := best_bar hc h0 (bar := bar - nd cut sn x) (bar' := bar' - nd cut sn x) (sn := true) (by omega)
    have h3 := best_nn' hc h0 bar' sn
    simp only [best]
    by_cases h4 : nd cut sn x ≤ bar
    · rw [if_pos h4, if_pos (by omega)]; omega
    · rw [if_neg h4]
      split <;> omega
theorem best_more {cut : Int} (hc : 0 ≤ cut) (y : Int) (hy : 1 ≤ y) : ∀ {xs : List Int} (hx : ∀ x ∈ xs, 1 ≤ x) {bar : Int} {sn : Bool}, best cut xs bar sn ≤ best cut (xs ++ [y]) bar sn
  | [], _, bar, sn => best_nn' hc (by simpa using hy) bar sn
  | x :: xs, hx, bar, sn => by
    have h0 : ∀ y ∈ xs, 1 ≤ y := fun y hy => hx y (List.mem_cons_of_mem _ hy)
    have h1 := best_more hc y hy h0 (bar := bar) (sn := sn)
    have h2 := best_more hc y hy h0 (bar := bar - nd cut sn x) (sn := true)
    simp only [best, List.cons_append]
    by_cases h4 : nd cut sn x ≤ bar
    · rw [if_pos h4, if_pos h4]; omega
    · rw [if_neg h4, if_neg h4]; omega
end Go.Oct.Shop
