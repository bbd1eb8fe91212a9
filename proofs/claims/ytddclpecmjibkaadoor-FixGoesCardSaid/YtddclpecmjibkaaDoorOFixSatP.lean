/- Logs, plain: a true track, step by step. -/
import Derived.Test.YtddclpecmjibkaaDoorOFixHlpW
set_option maxRecDepth 100000
set_option maxHeartbeats 2000000
set_option linter.unusedVariables false
set_option linter.unusedSimpArgs false
namespace Go.Oct.Fix
open Go.Oct
/-- All steps hold, from a part on. -/
def sat (t : List Span) : List Stp → Nat → Prop
  | [], _ => True
  | s :: S, j => if isRun s = true then (inSea (nth t (j + 1)) ∧ goI s (nth t j).lo (nth t j).hi (nth t (j + 1)).lo (nth t (j + 1)).hi = true) ∧ sat t S (j + 1) else hld s (nth t j).lo (nth t j).hi = true ∧ sat t S j
theorem sat_app {t : List Span} : ∀ (A B : List Stp) (j : Nat), sat t (A ++ B) j ↔ sat t A j ∧ sat t B (j + (rns A).length)
  | [], B, j => by simp [sat, rns]
  | s :: A, B, j => by
    simp only [List.cons_append, sat]
    by_cases e : isRun s = true
    · rw [if_pos e, if_pos e, sat_app A B (j + 1)]
      have : (rns (s :: A)).length = (rns A).length + 1 := by unfold rns; rw [List.filter_cons_of_pos e]; rfl
      rw [this, show j + ((rns A).length + 1) = j + 1 + (rns A).length by omega]
      exact and_assoc.symm
    · rw [if_neg e, if_neg e, sat_app A B j]
      have : (rns (s :: A)).length = (rns A).length := by unfold rns; rw [List.filter_cons_of_neg e]
      rw [this]
      exact and_assoc.symm
/-- What the first steps say. -/
def partOK (S : List Stp) (t : List Span) (i : Nat) : Prop := (∀ j, j ≤ (rnT S i).length → allH (nth (sgs S i) j) (nth t j).lo (nth t j).hi = true) ∧ ∀ j, j < (rnT S i).length → inSea (nth t (j + 1)) ∧ goI (nth (rnT S i) j) (nth t j).lo (nth t j).hi (nth t (j + 1)).lo (nth t (j + 1)).hi = true
theorem part_sat {S : List Stp} {t : List Span} : ∀ i, i ≤ S.length → (partOK S t i ↔ sat t (S.take i) 0)
  | 0, _ => by
    unfold partOK
    simp only [List.take_zero, sat, rnT, rns, List.filter_nil, List.length_nil, sgs]
    refine iff_true_intro ⟨fun j hj => ?_, fun j hj => absurd hj (Nat.not_lt_zero j)⟩
    obtain rfl : j = 0 := by omega
    rfl
  | i + 1, h => by
    have ih := part_sat (S := S) (t := t) i (by omega)
    have hl := sgs_len (S := S) i (by omega)
    have hs := rnT_succ (S := S) (i := i) (by omega)
    rw [take_succ_nth (show i < S.length by omega), sat_app, ← ih]
    have hr : (rns (S.take i)).length = (rnT S i).length := rfl
    rw [Nat.zero_add, hr]
    unfold partOK
    by_cases e : isRun (nth S i) = true
    · rw [if_pos e] at hs
      have hg : sgs S (i + 1) = sgs S i ++ [[]] := by simp only [sgs]; rw [if_pos e]
      have hll : (rnT S (i + 1)).length = (rnT S i).length + 1 := by rw [hs]; simp
      simp only [sat]
      rw [if_pos e, hll, hg, hs]
      have h1 : ∀ j, j ≤ (rnT S i).length → nth (sgs S i ++ [[]]) j = nth (sgs S i) j := fun j hj => nth_app_lo (by omega)
      have h2 : nth (sgs S i ++ [[]]) ((rnT S i).length + 1) = [] := by rw [← hl]; exact nth_app_hi
      have h3 : ∀ j, j < (rnT S i).length → nth (rnT S i ++ [nth S i]) j = nth (rnT S i) j := fun j hj => nth_app_lo hj
      have h4 : nth (rnT S i ++ [nth S i]) (rnT S i).length = nth S i := nth_app_hi
      constructor
      · rintro ⟨a, b⟩
        refine ⟨⟨fun j hj => by rw [← h1 j hj]; exact a j (by omega), fun j hj => by rw [← h3 j hj]; exact b j (by omega)⟩, ?_, trivial⟩
        have := b (rnT S i).length (by omega)
        rwa [h4] at this
      · rintro ⟨⟨a, b⟩, c, _⟩
        refine ⟨fun j hj => ?_, fun j hj => ?_⟩
        · by_cases e1 : j ≤ (rnT S i).length
          · rw [h1 j e1]; exact a j e1
          · obtain rfl : j = (rnT S i).length + 1 := by omega
            rw [h2]; rfl
        · by_cases e1 : j < (rnT S i).length
          · rw [h3 j e1]; exact b j e1
          · obtain rfl : j = (rnT S i).length := by omega
            rw [h4]; exact c
    · rw [if_neg e, List.append_nil] at hs
      have hg : sgs S (i + 1) = addL (sgs S i) (nth S i) := by simp only [sgs]; rw [if_neg e]
      simp only [sat]
      rw [if_neg e, hg, hs]
      have hn : ∀ j, nth (addL (sgs S i) (nth S i)) j = if j = (rnT S i).length then nth (sgs S i) j ++ [nth S i] else nth (sgs S i) j := fun j => by
        unfold addL
        rw [nth_set (by omega), hl, Nat.add_sub_cancel]
        split
        · rename_i h; rw [h]
        · rfl
      have ha : ∀ j, (allH (nth (addL (sgs S i) (nth S i)) j) (nth t j).lo (nth t j).hi = true) ↔ allH (nth (sgs S i) j) (nth t j).lo (nth t j).hi = true ∧ (j = (rnT S i).length → hld (nth S i) (nth t j).lo (nth t j).hi = true) := fun j => by
        rw [hn]
        unfold allH
        by_cases e1 : j = (rnT S i).length
        · rw [if_pos e1, List.all_append, Bool.and_eq_true]
          simp [e1]
        · rw [if_neg e1]
          simp [e1]
      constructor
      · rintro ⟨a, b⟩
        exact ⟨⟨fun j hj => ((ha j).1 (a j hj)).1, b⟩, ((ha _).1 (a _ (Nat.le_refl _))).2 rfl, trivial⟩
      · rintro ⟨⟨a, b⟩, c, _⟩
        exact ⟨fun j hj => (ha j).2 ⟨a j hj, fun e1 => by rw [e1]; exact c⟩, b⟩
/-- A true track, followed step by step. -/
theorem true_sat {E N : Span} {S : List Stp} {t : List Span} : TrueT E N S t ↔ t.length = (rns S).length + 1 ∧ inI E.lo E.hi (nth t 0).lo = true ∧ inI N.lo N.hi (nth t 0).hi = true ∧ inSea (nth t 0) ∧ sat t S 0 := by
  have hp := part_sat (S := S) (t := t) S.length (Nat.le_refl _)
  rw [List.take_length] at hp
  unfold partOK at hp
  rw [rnT_all] at hp
  rw [← hp]
  constructor
  · rintro ⟨h1, h2, h3, h4, h5, h6⟩
    exact ⟨h1, h2, h3, h4 0 (Nat.zero_le _), h5, fun j hj => ⟨h4 (j + 1) (by omega), h6 j hj⟩⟩
  · rintro ⟨h1, h2, h3, h4, h5, h6⟩
    refine ⟨h1, h2, h3, fun i hi => ?_, h5, fun j hj => (h6 j hj).2⟩
    cases i with
    | zero => exact h4
    | succ i => exact (h6 i (by omega)).1
theorem sat_take {t : List Span} {S : List Stp} (h : sat t S 0) (i : Nat) : sat t (S.take i) 0 := by
  have : sat t (S.take i ++ S.drop i) 0 := by rw [List.take_append_drop]; exact h
  exact ((sat_app _ _ _).1 this).1
/-- What one step says. -/
def stepOK (s : Stp) (t : List Span) (j : Nat) : Prop := if isRun s = true then inSea (nth t (j + 1)) ∧ goI s (nth t j).lo (nth t j).hi (nth t (j + 1)).lo (nth t (j + 1)).hi = true else hld s (nth t j).lo (nth t j).hi = true
theorem sat_succ {t : List Span} {S : List Stp} {i : Nat} (h : i < S.length) : sat t (S.take (i + 1)) 0 ↔ sat t (S.take i) 0 ∧ stepOK (nth S i) t (rnT S i).length := by
  rw [take_succ_nth h, sat_app, Nat.zero_add]
  have hr : (rns (S.take i)).length = (rnT S i).length := rfl
  rw [hr]
  unfold stepOK
  simp only [sat]
  split <;> simp
end Go.Oct.Fix
