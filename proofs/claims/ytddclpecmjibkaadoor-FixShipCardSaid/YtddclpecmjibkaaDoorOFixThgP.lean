/- FixThrough, plain: the log in which the ship is at a point behind some runs. -/
import Derived.Test.YtddclpecmjibkaaDoorOFixSatP
set_option maxRecDepth 100000
set_option maxHeartbeats 2000000
set_option linter.unusedVariables false
set_option linter.unusedSimpArgs false
namespace Go.Oct.Fix
open Go.Oct
/-- There is a point just where there is a true track. -/
theorem can_true {E N : Span} {S : List Stp} : ptsL (canR E N S) ≠ [] ↔ ∃ t, TrueT E N S t := by
  constructor
  · intro h
    obtain ⟨q, hq⟩ := List.exists_mem_of_ne_nil _ h
    obtain ⟨m, h1, h2, _⟩ := ptsL_mem.1 hq
    obtain ⟨t, ht, _⟩ := of_can _ m h1 h2
    exact ⟨t, ht⟩
  · rintro ⟨t, ht⟩ h
    have hs := ht.sea _ (Nat.le_refl _)
    have : nth t (rns S).length ∈ ptsL (canR E N S) := ptsL_mem.2 ⟨ix (nth t (rns S).length), ix_lt hs, can_of ht _ (Nat.le_refl _), (pt_ix hs).symm⟩
    rw [h] at this; cases this
theorem was_pt {E N : Span} {S : List Stp} {p : Span} {k : Nat} (hk : k ≤ (rns S).length) (hp : inSea p) : p ∈ ptsL (wasF E N S ((rns S).length - k)) ↔ ∃ t, TrueT E N S t ∧ nth t k = p := by
  have e : (rns S).length - ((rns S).length - k) = k := by omega
  constructor
  · intro h
    obtain ⟨m, h1, h2, h3⟩ := ptsL_mem.1 h
    obtain ⟨t, a, b⟩ := (was_true (by omega) h1).1 h2
    rw [e] at b
    exact ⟨t, a, b.trans h3.symm⟩
  · rintro ⟨t, a, b⟩
    refine ptsL_mem.2 ⟨ix p, ix_lt hp, (was_true (by omega) (ix_lt hp)).2 ⟨t, a, ?_⟩, (pt_ix hp).symm⟩
    rw [e, pt_ix hp]; exact b
end Go.Oct.Fix
