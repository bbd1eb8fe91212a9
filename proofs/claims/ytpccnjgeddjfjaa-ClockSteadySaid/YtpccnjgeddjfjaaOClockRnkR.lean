/- Rank: the specification's. -/
import Derived.Test.YtpccnjgeddjfjaaOClockRnk
set_option maxRecDepth 100000
set_option maxHeartbeats 4000000
set_option linter.unusedVariables false
set_option linter.unusedSimpArgs false
namespace Go.Oct.Clock
open Go.Oct
def ints (o : List Nat) : List Int := o.map (fun i : Nat => (i : Int))
theorem ints_len (o : List Nat) : (ints o).length = o.length := by unfold ints; simp
theorem ints_nth {o : List Nat} {i : Nat} (h : i < o.length) : nth (ints o) i = ((nth o i : Nat) : Int) := nth_map _ h
theorem nums_nth {l : List Ent} {n i : Nat} (h : i < n) : nth (nums l n) i = numV (nth l i).weeks := by
  have h2 := nth_get? (xs := nums l n) (i := i) (by rw [nums_len]; exact h)
  unfold nums at h2 ⊢
  rw [List.getElem?_map, List.getElem?_range h] at h2
  simpa using h2.symm
/-- A slice that is not there yet, or in an object of its own. -/
def Own (σ : AH) (v : AV) (xs : List Int) : Prop := (v = .vsl true [] ∧ xs = []) ∨ (xs ≠ [] ∧ Whole 0 1 (AV.int .i64) σ v xs)
end Go.Oct.Clock
