/- Logs, plain: true tracks, and where the ship can have been. -/
import Derived.Test.YtddkghgfbhhcdaaDoorOWreSeaP
set_option maxRecDepth 100000
set_option maxHeartbeats 2000000
set_option linter.unusedVariables false
set_option linter.unusedSimpArgs false
namespace Go.Oct.Wre.Fx
open Go.Oct
def inSea (q : Span) : Prop := (0 ≤ q.lo ∧ q.lo ≤ 59) ∧ 0 ≤ q.hi ∧ q.hi ≤ 59
instance (q : Span) : Decidable (inSea q) := by unfold inSea; infer_instance
def pt (p : Nat) : Span := ⟨((p / 60 : Nat) : Int), ((p % 60 : Nat) : Int)⟩
def ix (q : Span) : Nat := (60 * q.lo + q.hi).toNat
structure TrT (E N : Span) (R : List Stp) (G : List (List Stp)) (j : Nat) (t : List Span) : Prop where
  len : t.length = j + 1
  e0 : inI E.lo E.hi (nth t 0).lo = true
  n0 : inI N.lo N.hi (nth t 0).hi = true
  sea : ∀ i, i ≤ j → inSea (nth t i)
  hold : ∀ i, i ≤ j → allH (nth G i) (nth t i).lo (nth t i).hi = true
  goes : ∀ i, i < j → goI (nth R i) (nth t i).lo (nth t i).hi (nth t (i + 1)).lo (nth t (i + 1)).hi = true
section
variable {E N : Span} {R : List Stp} {G : List (List Stp)}
end
end Go.Oct.Wre.Fx
