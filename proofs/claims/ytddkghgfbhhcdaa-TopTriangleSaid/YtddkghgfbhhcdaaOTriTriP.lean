/- One triangle: its nets, the angles that close. -/
import Derived.Test.YtddkghgfbhhcdaaOTriSus
import Derived.Test.YtddkghgfbhhcdaaOTriRepP
set_option maxRecDepth 100000
set_option maxHeartbeats 2000000
set_option linter.unusedVariables false
set_option linter.unusedSimpArgs false
namespace Go.Oct.Tri
open Go.Oct
def tri (a b c : Span) : List An := [⟨0, 0, a.lo, a.hi⟩, ⟨0, 1, b.lo, b.hi⟩, ⟨0, 2, c.lo, c.hi⟩]
abbrev c3 : List Bool := [false, false, false]
def okA (a : Span) : Prop := 0 ≤ a.lo ∧ a.lo ≤ a.hi ∧ a.hi ≤ 648000
theorem tri_net {a b c : Span} (ha : okA a) (hb : okA b) (hc : okA c) : okNet 1 c3 (tri a b c) := by
  refine ⟨by omega, by decide, by simp [tri], fun i hi => ?_, fun i hi j hj => ?_, fun t ht => ?_⟩
  · have hi : i < 3 := hi
    have h : i = 0 ∨ i = 1 ∨ i = 2 := by omega
    rcases h with rfl | rfl | rfl
    · exact ⟨⟨show (0 : Int) ≤ 0 by decide, show (0 : Int) < 1 by decide⟩, ⟨show (0 : Int) ≤ 0 by decide, show (0 : Int) < 3 by decide⟩, ha⟩
    · exact ⟨⟨show (0 : Int) ≤ 0 by decide, show (0 : Int) < 1 by decide⟩, ⟨show (0 : Int) ≤ 1 by decide, show (1 : Int) < 3 by decide⟩, hb⟩
    · exact ⟨⟨show (0 : Int) ≤ 0 by decide, show (0 : Int) < 1 by decide⟩, ⟨show (0 : Int) ≤ 2 by decide, show (2 : Int) < 3 by decide⟩, hc⟩
  · have hi : i < 3 := hi
    have h : i = 1 ∧ j = 0 ∨ i = 2 ∧ j = 0 ∨ i = 2 ∧ j = 1 := by omega
    rcases h with ⟨rfl, rfl⟩ | ⟨rfl, rfl⟩ | ⟨rfl, rfl⟩
    · exact fun h => absurd (show (0 : Int) = 1 from h.2) (by decide)
    · exact fun h => absurd (show (0 : Int) = 2 from h.2) (by decide)
    · exact fun h => absurd (show (1 : Int) = 2 from h.2) (by decide)
  · have ht : t = 0 := by have : t < 1 := ht; omega
    subst ht
    rfl
theorem tri_cl {a b c : Span} (ha : okA a) (hb : okA b) (hc : okA c) {h : List Int} : isCl 1 c3 (tri a b c) h ↔ ∃ x y z, h = [x, y, z] ∧ (a.lo ≤ x ∧ x ≤ a.hi) ∧ (b.lo ≤ y ∧ y ≤ b.hi) ∧ (c.lo ≤ z ∧ z ≤ c.hi) ∧ x + y + z = 648000 := by
  have hk := clD_iff (N := 1) (tri_net ha hb hc) (h := h)
  rw [show ((1 : Nat) : Int) = 1 from rfl] at hk
  rw [← hk]
  unfold clD inA
  constructor
  · rintro ⟨⟨h1, h2⟩, h3, _⟩
    match h, h1 with
    | [x, y, z], _ =>
      have a0 := h2 0 (show 0 < 3 by decide)
      have a1 := h2 1 (show 1 < 3 by decide)
      have a2 := h2 2 (show 2 < 3 by decide)
      have a3 := h3 0 (by decide)
      refine ⟨x, y, z, rfl, a0, a1, a2, ?_⟩
      have e : sBy (fun q : An => decide (q.t = ((0 : Nat) : Int))) (tri a b c) [x, y, z] = x + (y + (z + 0)) := by simp [sBy, tri]
      rw [e] at a3
      omega
  · rintro ⟨x, y, z, rfl, a0, a1, a2, a3⟩
    refine ⟨⟨rfl, fun i hi => ?_⟩, fun t ht => ?_, fun s hs hs2 => ?_⟩
    · have hi : i < 3 := hi
      have h : i = 0 ∨ i = 1 ∨ i = 2 := by omega
      rcases h with rfl | rfl | rfl
      · exact a0
      · exact a1
      · exact a2
    · have ht : t = 0 := by omega
      subst ht
      have e : sBy (fun q : An => decide (q.t = ((0 : Nat) : Int))) (tri a b c) [x, y, z] = x + (y + (z + 0)) := by simp [sBy, tri]
      rw [e]
      omega
    · exfalso
      have hs : s < 3 := hs
      have h : s = 0 ∨ s = 1 ∨ s = 2 := by omega
      rcases h with rfl | rfl | rfl <;> exact absurd hs2 (by decide)
/-- The third angle is suspect, if the others leave one. -/
theorem tri_sus {a b c : Span} (ha : okA a) (hb : okA b) (hc : okA c) {x y z : Int} (hx : a.lo ≤ x ∧ x ≤ a.hi) (hy : b.lo ≤ y ∧ y ≤ b.hi) (hz : 0 ≤ z ∧ z ≤ 648000) (hs : x + y + z = 648000) : (2 : Int) ∈ susL 1 c3 (tri a b c) := by
  unfold susL
  rw [sel_mem]
  refine ⟨2, show 2 < 3 by decide, ?_, rfl⟩
  unfold susF
  rw [clB_true]
  have e : setA (tri a b c) 2 0 648000 = tri a b ⟨0, 648000⟩ := rfl
  rw [e]
  exact ⟨[x, y, z], (tri_cl ha hb ⟨by decide, by decide, by decide⟩).2 ⟨x, y, z, rfl, hx, hy, hz, hs⟩⟩
theorem place_mem {xs : List Int} {n : Int} (h : n ∈ xs) : 0 ≤ place xs n := by
  unfold place pfrom
  rw [List.drop_zero, if_pos h]
  omega
end Go.Oct.Tri
