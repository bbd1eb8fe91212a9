/- An angle that is repeated, plain: which circles agree. -/
import Derived.Test.YtddkghgfbhhcdaaOTriB0
set_option maxRecDepth 100000
set_option maxHeartbeats 2000000
set_option linter.unusedVariables false
set_option linter.unusedSimpArgs false
namespace Go.Oct.Tri
open Go.Oct
def trn (F L : Int) (c : Int) : Int := L - F + (c - 1) * 1296000
def upT (F L w t : Int) (c : Int) : Int := - (-(trn F L c - 2 * w) / t)
def dnT (F L w t : Int) (c : Int) : Int := (trn F L c + 2 * w) / t
theorem dn_lt {a t x : Int} (ht : 0 < t) (h : a < x * t) : a / t < x := (Int.ediv_lt_iff_lt_mul ht).2 h
theorem le_dn {a t x : Int} (ht : 0 < t) (h : x * t ≤ a) : x ≤ a / t := (Int.le_ediv_iff_mul_le ht).2 h
theorem rep_in {F w t a m : Int} (hF : 0 ≤ F ∧ F < 1296000) (ht : 1 ≤ t ∧ t ≤ 100) (hw : 0 ≤ w ∧ w ≤ 99) (ha : 0 ≤ a ∧ a ≤ 648000) (hm : -(2 * w) ≤ m ∧ m ≤ 2 * w) {L : Int} (hL : L = (F + t * a + m) % 1296000) :
    ∃ c0 : Nat, (c0 : Int) < t + 2 ∧ (upT F L w t c0 ≤ a ∧ a ≤ dnT F L w t c0) ∧ ∀ c : Int, c ≠ c0 → min (min 648000 (a + 500)) (dnT F L w t c) < max (a - 500) (upT F L w t c) := by
  obtain ⟨p, hp⟩ : ∃ p, p = t * a := ⟨_, rfl⟩
  have p0 : 0 ≤ p := by rw [hp]; exact Int.mul_nonneg (by omega) (by omega)
  have p1 : p ≤ t * 648000 := by rw [hp]; exact Int.mul_le_mul_of_nonneg_left (by omega) (by omega)
  rw [← hp] at hL
  obtain ⟨q, hq⟩ : ∃ q, q = (F + p + m) / 1296000 := ⟨_, rfl⟩
  have hdm := Int.mul_ediv_add_emod (F + p + m) 1296000
  rw [← hL, ← hq] at hdm
  have l0 := Int.emod_nonneg (F + p + m) (show (1296000 : Int) ≠ 0 by decide)
  have l1 := Int.emod_lt_of_pos (F + p + m) (show (0 : Int) < 1296000 by decide)
  rw [← hL] at l0 l1
  have hat : a * t = p := by rw [hp, Int.mul_comm]
  refine ⟨(q + 1).toNat, by omega, ?_, fun c hc => ?_⟩
  · have e : ((q + 1).toNat : Int) = q + 1 := by omega
    have et : trn F L ((q + 1).toNat : Int) = p + m := by unfold trn; rw [e]; omega
    unfold upT dnT
    rw [et]
    constructor
    · have := le_dn (a := -(p + m - 2 * w)) (t := t) (x := -a) (by omega) (by rw [Int.neg_mul, hat]; omega)
      omega
    · exact le_dn (by omega) (by rw [hat]; omega)
  · have e : ((q + 1).toNat : Int) = q + 1 := by omega
    rw [e] at hc
    have et : trn F L c = p + m + (c - 1 - q) * 1296000 := by unfold trn; omega
    have e5 : (a + 500) * t = p + 500 * t := by rw [Int.add_mul, hat]
    have e6 : (a - 500) * t = p - 500 * t := by rw [Int.sub_mul, hat]
    by_cases h : c < q + 1
    · have : dnT F L w t c < a - 500 := by
        unfold dnT
        rw [et]
        exact dn_lt (by omega) (by rw [e6]; omega)
      omega
    · have : a + 500 < upT F L w t c := by
        unfold upT
        rw [et]
        have := dn_lt (a := -(p + m + (c - 1 - q) * 1296000 - 2 * w)) (t := t) (x := -(a + 500)) (by omega) (by rw [Int.neg_mul, e5]; omega)
        omega
      omega
end Go.Oct.Tri
