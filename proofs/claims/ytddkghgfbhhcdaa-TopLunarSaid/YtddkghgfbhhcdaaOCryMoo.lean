/- The moon, plain: when a distance is that of a time; the span of all such times. -/
import Derived.Test.YtddkghgfbhhcdaaOCryTab
set_option maxRecDepth 100000
set_option maxHeartbeats 2000000
set_option linter.unusedVariables false
set_option linter.unusedSimpArgs false
namespace Go.Oct.Cry.Fx
open Go.Oct
/-- The distance at a time between two rows, times the time between them. -/
def dist (a b : Span) (t : Int) : Int := a.hi * (b.lo - t) + b.hi * (t - a.lo)
def hit (a b s : Span) (t : Int) : Prop := s.lo * (b.lo - a.lo) ≤ dist a b t ∧ dist a b t ≤ s.hi * (b.lo - a.lo)
instance (a b s : Span) (t : Int) : Decidable (hit a b s t) := by unfold hit; infer_instance
/-- One time more. -/
def stp (st : Option Span) (a b s : Span) (t : Int) : Option Span := if hit a b s t then some (match st with | none => ⟨t, t⟩ | some x => ⟨x.lo, t⟩) else st
def inn (a b s : Span) (st : Option Span) : Nat → Option Span
  | 0 => st
  | q + 1 => stp (inn a b s st q) a b s (a.lo + q)
def wid (a b : Span) : Nat := (b.lo - a.lo).toNat
def out (l : List Span) (s : Span) : Nat → Option Span
  | 0 => none
  | i + 1 => inn (nth l i) (nth l (i + 1)) s (out l s i) (wid (nth l i) (nth l (i + 1)) + 1)
def moonV (l : List Span) (s : Span) : Span × Int := if okTab l ∧ isSp s 0 1000000 then (match out l s (l.length - 1) with | none => (⟨0, 0⟩, 4) | some x => (x, 0)) else (⟨0, 0⟩, 83)
def mst (st : Option Span) : Span := st.getD ⟨0, 0⟩
/-- What has been found lies behind. -/
def Upto (st : Option Span) (t : Int) : Prop := ∀ x, st = some x → x.lo ≤ x.hi ∧ x.hi ≤ t
theorem Upto.stp {st : Option Span} {a b s : Span} {t : Int} (h : Upto st t) : Upto (stp st a b s t) t := by
  intro x hx
  unfold Fx.stp at hx
  split at hx
  · cases hx
    cases st with
    | none => exact ⟨Int.le_refl _, Int.le_refl _⟩
    | some y => have := h y rfl; exact ⟨by show y.lo ≤ t; omega, Int.le_refl _⟩
  · exact h x hx
theorem Upto.mono {st : Option Span} {t u : Int} (h : Upto st t) (htu : t ≤ u) : Upto st u := fun x hx => by have := h x hx; omega
theorem mul_le {a b A B : Int} (ha : 0 ≤ a) (hA : a ≤ A) (hb : 0 ≤ b) (hB : b ≤ B) : 0 ≤ a * b ∧ a * b ≤ A * B :=
  ⟨Int.mul_nonneg ha hb, Int.mul_le_mul hA hB hb (by omega)⟩
end Go.Oct.Cry.Fx
