/- One reading of a surface by a test plate: what the search over all curvatures has found, plain. -/
import Derived.Test.YtddkghgfbhhcdaaDoorOPlaTruW
set_option maxRecDepth 100000
set_option maxHeartbeats 4000000
set_option linter.unusedVariables false
set_option linter.unusedSimpArgs false
namespace Go.Oct.Pla
open Go.Oct
/-- A plate and its rings, nothing pressed. -/
structure Fr1 where
  lo : Int
  hi : Int
  r : Int
  deriving Inhabited
def okFr (x : Fr1) : Prop := -1000 ≤ x.lo ∧ x.lo ≤ x.hi ∧ x.hi ≤ 1000 ∧ 0 ≤ x.r ∧ x.r ≤ 1000
def inA (x : Fr1) (c : Int) : Prop := (x.lo + x.r ≤ c ∧ c ≤ x.hi + x.r) ∨ (x.lo - x.r ≤ c ∧ c ≤ x.hi - x.r)
instance (x : Fr1) (c : Int) : Decidable (inA x c) := by unfold inA; infer_instance
/-- What is found below c. -/
def stA (x : Fr1) (c : Int) : List Span :=
  if c ≤ x.lo - x.r then [] else
  if x.lo + x.r ≤ x.hi - x.r + 1 then [⟨x.lo - x.r, min (c - 1) (x.hi + x.r)⟩] else
  if c ≤ x.lo + x.r then [⟨x.lo - x.r, min (c - 1) (x.hi - x.r)⟩] else [⟨x.lo - x.r, x.hi - x.r⟩, ⟨x.lo + x.r, min (c - 1) (x.hi + x.r)⟩]
theorem one_app {α : Type} {a l : α} {M : List α} (h : [a] = M ++ [l]) : M = [] ∧ l = a := by
  cases M with
  | nil => simp at h; exact ⟨rfl, h.symm⟩
  | cons b M => simp at h
theorem two_app {α : Type} {a b l : α} {M : List α} (h : [a, b] = M ++ [l]) : M = [a] ∧ l = b := by
  match M, h with
  | [], h => simp at h
  | [c], h => simp at h; exact ⟨by rw [h.1], h.2.symm⟩
  | c :: d :: M, h => simp at h
theorem stA_skip {x : Fr1} {c : Int} (hx : okFr x) (h : ¬ inA x c) : stA x (c + 1) = stA x c := by
  unfold inA at h
  unfold okFr at hx
  unfold stA
  have e (a b : Int) : min a b = if a ≤ b then a else b := by omega
  repeat' split
  all_goals first | rfl | omega | skip
  all_goals (congr 2; try omega)
  all_goals (try (congr 2; omega))
  all_goals (try (congr 1; omega))
theorem stA_ext {x : Fr1} {c : Int} (hx : okFr x) (h : inA x c) {M : List Span} {l : Span} (e : stA x c = M ++ [l]) (hl : l.hi = c - 1) : stA x (c + 1) = M ++ [⟨l.lo, c⟩] := by
  unfold inA at h
  unfold okFr at hx
  unfold stA at e
  split at e
  · simp at e
  split at e
  · obtain ⟨rfl, rfl⟩ := one_app e
    simp only at hl
    unfold stA
    rw [if_neg (by omega), if_pos (by omega), show min (c + 1 - 1) (x.hi + x.r) = c by omega]; rfl
  split at e
  · obtain ⟨rfl, rfl⟩ := one_app e
    simp only at hl
    unfold stA
    rw [if_neg (by omega), if_neg (by omega), if_pos (by omega), show min (c + 1 - 1) (x.hi - x.r) = c by omega]; rfl
  · obtain ⟨rfl, rfl⟩ := two_app e
    simp only at hl
    unfold stA
    rw [if_neg (by omega), if_neg (by omega), if_neg (by omega), show min (c + 1 - 1) (x.hi + x.r) = c by omega]; rfl
theorem stA_new {x : Fr1} {c : Int} (hx : okFr x) (h : inA x c) (hl : ∀ M l, stA x c = M ++ [l] → l.hi ≠ c - 1) : stA x (c + 1) = stA x c ++ [⟨c, c⟩] := by
  unfold inA at h
  unfold okFr at hx
  by_cases h1 : c ≤ x.lo - x.r
  · have hc : c = x.lo - x.r := by omega
    have e0 : stA x c = [] := by unfold stA; rw [if_pos h1]
    rw [e0]
    unfold stA
    rw [if_neg (by omega)]
    by_cases h2 : x.lo + x.r ≤ x.hi - x.r + 1
    · rw [if_pos h2, show min (c + 1 - 1) (x.hi + x.r) = c by omega, ← hc]; rfl
    · rw [if_neg h2, if_pos (by omega), show min (c + 1 - 1) (x.hi - x.r) = c by omega, ← hc]; rfl
  by_cases h2 : x.lo + x.r ≤ x.hi - x.r + 1
  · have e0 : stA x c = [] ++ [⟨x.lo - x.r, min (c - 1) (x.hi + x.r)⟩] := by unfold stA; rw [if_neg h1, if_pos h2]; rfl
    have := hl _ _ e0
    simp only at this
    omega
  by_cases h3 : c ≤ x.lo + x.r
  · have e0 : stA x c = [] ++ [⟨x.lo - x.r, min (c - 1) (x.hi - x.r)⟩] := by unfold stA; rw [if_neg h1, if_neg h2, if_pos h3]; rfl
    have := hl _ _ e0
    simp only at this
    rw [e0]
    unfold stA
    rw [if_neg (by omega), if_neg h2, if_neg (by omega), show min (c + 1 - 1) (x.hi + x.r) = c by omega, show min (c - 1) (x.hi - x.r) = x.hi - x.r by omega, show x.lo + x.r = c by omega]; rfl
  · have e0 : stA x c = [⟨x.lo - x.r, x.hi - x.r⟩] ++ [⟨x.lo + x.r, min (c - 1) (x.hi + x.r)⟩] := by unfold stA; rw [if_neg h1, if_neg h2, if_neg h3]; rfl
    have := hl _ _ e0
    simp only at this
    omega
theorem stA_len (x : Fr1) (c : Int) : (stA x c).length ≤ 2 := by
  unfold stA
  repeat' split
  all_goals simp
/-- What is found at the end. -/
theorem stA_fin {x : Fr1} (hx : okFr x) : 0 < (stA x 2001).length ∧ (∀ s ∈ stA x 2001, (-3000 ≤ s.lo ∧ s.lo ≤ 3000) ∧ (-3000 ≤ s.hi ∧ s.hi ≤ 3000) ∧ s.hi - s.lo ≤ 2 * (x.hi - x.lo) + 2 * x.r) ∧ ∀ c, inA x c → ∃ s ∈ stA x 2001, s.lo ≤ c ∧ c ≤ s.hi := by
  unfold okFr at hx
  by_cases h2 : x.lo + x.r ≤ x.hi - x.r + 1
  · have e : stA x 2001 = [⟨x.lo - x.r, x.hi + x.r⟩] := by unfold stA; rw [if_neg (by omega), if_pos h2, show min (2001 - 1) (x.hi + x.r) = x.hi + x.r by omega]
    rw [e]
    refine ⟨by simp, fun s hs => ?_, fun c hc => ⟨_, List.mem_singleton.2 rfl, ?_⟩⟩
    · obtain rfl := List.mem_singleton.1 hs
      simp only; omega
    · unfold inA at hc; simp only; omega
  · have e : stA x 2001 = [⟨x.lo - x.r, x.hi - x.r⟩, ⟨x.lo + x.r, x.hi + x.r⟩] := by unfold stA; rw [if_neg (by omega), if_neg h2, if_neg (by omega), show min (2001 - 1) (x.hi + x.r) = x.hi + x.r by omega]
    rw [e]
    refine ⟨by simp, fun s hs => ?_, fun c hc => ?_⟩
    · simp only [List.mem_cons, List.not_mem_nil, or_false] at hs
      rcases hs with rfl | rfl <;> (simp only; omega)
    · unfold inA at hc
      rcases hc with hc | hc
      · exact ⟨⟨x.lo + x.r, x.hi + x.r⟩, by simp, hc⟩
      · exact ⟨⟨x.lo - x.r, x.hi - x.r⟩, by simp, hc⟩
end Go.Oct.Pla
