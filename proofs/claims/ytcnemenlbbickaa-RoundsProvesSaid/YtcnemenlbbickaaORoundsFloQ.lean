/- Nets, plain: what is reached proves that no angles close, or that an angle cannot be more. -/
import Derived.Test.YtcnemenlbbickaaORoundsFloP
set_option maxRecDepth 100000
set_option maxHeartbeats 1000000
set_option linter.unusedVariables false
set_option linter.unusedSimpArgs false
namespace Go.Oct.Rounds
open Go.Oct
theorem nth_lt_mem {E : List Ed} (hE : okE E) : ∀ e ∈ E, e.u < 8 ∧ 8 ≤ e.v ∧ e.v ≤ 16 := fun e he => by
  obtain ⟨i, hi, rfl⟩ := mem_nth.1 he
  have := hE.2 i hi
  exact ⟨this.1, this.2.1, this.2.2.1⟩
theorem cutE_pos {R : Nat → Bool} {e : Ed} : 0 < cutE R e ↔ R e.u = true ∧ R e.v = false := by
  unfold cutE ind; cases R e.u <;> cases R e.v <;> simp
theorem cutE_neg {R : Nat → Bool} {e : Ed} : cutE R e < 0 ↔ R e.u = false ∧ R e.v = true := by
  unfold cutE ind; cases R e.u <;> cases R e.v <;> simp
/-- What triangles that lack seconds reach: their angles are too small. -/
theorem small_cut {E : List Ed} {h : List Int} {R : Nat → Bool} (hE : okE E) (hin : inE E h) (hc : Clo E h (-1) R) :
    sHigh (cutE R) E = sumN (fun t => ind R t * sAt E h t) 8 - sumN (fun s => ind R (8 + s) * sAt E h (8 + s)) 9 := by
  rw [← cut_sum R E h (nth_lt_mem hE) hin.1]
  refine (sOf_high _ _ _ hin.1 fun i hi => ?_).symm
  obtain ⟨h1, h2⟩ := clo_edge hc hin hi (by omega)
  rw [cutE_pos, cutE_neg]
  exact ⟨fun h => h1 h.1 h.2, fun h => h2 h.2 h.1⟩
/-- What they don't reach. -/
def notR (R : Nat → Bool) (p : Nat) : Bool := !R p && decide (p ≠ 16)
theorem big_cut {E : List Ed} {h : List Int} {R : Nat → Bool} (hE : okE E) (hin : inE E h) (hc : Clo E h (-1) R) (ho : ∀ i, i < E.length → (nth E i).v = 16 → nth h i = (nth E i).lo) :
    sLow (cutE (notR R)) E = sumN (fun t => ind (notR R) t * sAt E h t) 8 - sumN (fun s => ind (notR R) (8 + s) * sAt E h (8 + s)) 9 := by
  rw [← cut_sum (notR R) E h (nth_lt_mem hE) hin.1]
  refine (sOf_low _ _ _ hin.1 fun i hi => ?_).symm
  obtain ⟨h1, h2⟩ := clo_edge hc hin hi (by omega)
  have hu := (hE.2 i hi).1
  rw [cutE_pos, cutE_neg]
  unfold notR
  constructor
  · intro h
    by_cases h16 : (nth E i).v = 16
    · exact ho i hi h16
    · have a : R (nth E i).u = false := by
        have := h.1
        simp at this
        exact this.1
      have b : R (nth E i).v = true := by
        have := h.2
        simp [h16] at this
        exact this
      exact h2 b a
  · intro h
    have a : R (nth E i).v = false := by
      have := h.2
      simp at this
      exact this.1
    have b : R (nth E i).u = true := by
      have := h.1
      have h3 : ¬ (nth E i).u = 16 := by omega
      simp [h3] at this
      exact this
    exact h1 b a
/-- Angles that close, as sums. -/
structure Cl2 (E : List Ed) (S : Nat → Int) (h : List Int) : Prop where
  bd : inE E h
  sum : ∀ p, p ≠ 16 → sAt E h p = S p
end Go.Oct.Rounds
