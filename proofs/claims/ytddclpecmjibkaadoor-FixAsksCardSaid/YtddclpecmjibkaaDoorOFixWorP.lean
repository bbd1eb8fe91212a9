/- FixBest, plain: how many points a sight leaves at most. -/
import Derived.Test.YtddclpecmjibkaaDoorOFixTrkW
set_option maxRecDepth 100000
set_option maxHeartbeats 2000000
set_option linter.unusedVariables false
set_option linter.unusedSimpArgs false
namespace Go.Oct.Fix
open Go.Oct
/-- How many values lie in a window. -/
def cntW (V : List Int) (lo hi : Int) : Nat := (V.filter fun v => inI lo hi v).length
/-- How many values are just one. -/
def cnt1 (V : List Int) (x : Int) : Nat := (V.filter fun v => decide (v = x)).length
theorem cntW_le (V : List Int) (lo hi : Int) : cntW V lo hi ≤ V.length := List.length_filter_le _ _
theorem cnt1_le (V : List Int) (x : Int) : cnt1 V x ≤ V.length := List.length_filter_le _ _
theorem cntW_cons (v : Int) (V : List Int) (lo hi : Int) : cntW (v :: V) lo hi = (if lo ≤ v ∧ v ≤ hi then 1 else 0) + cntW V lo hi := by
  unfold cntW
  by_cases h : lo ≤ v ∧ v ≤ hi
  · rw [List.filter_cons_of_pos (by exact inI_iff.2 h), if_pos h, List.length_cons]; omega
  · rw [List.filter_cons_of_neg (by intro h2; exact h (inI_iff.1 h2)), if_neg h]; omega
theorem cnt1_cons (v : Int) (V : List Int) (x : Int) : cnt1 (v :: V) x = (if v = x then 1 else 0) + cnt1 V x := by
  unfold cnt1
  by_cases h : v = x
  · rw [List.filter_cons_of_pos (by exact decide_eq_true h), if_pos h, List.length_cons]; omega
  · rw [List.filter_cons_of_neg (by simpa using h), if_neg h]; omega
/-- A window that moves on by one. -/
theorem cntW_step (V : List Int) (n d : Int) (hd : 0 ≤ d) : (cntW V (n - d) n : Int) = cntW V (n - 1 - d) (n - 1) + cnt1 V n - cnt1 V (n - d - 1) := by
  induction V with
  | nil => rfl
  | cons v V ih =>
    rw [cntW_cons, cntW_cons, cnt1_cons, cnt1_cons]
    by_cases h1 : v = n
    · rw [if_pos (show n - d ≤ v ∧ v ≤ n by omega), if_neg (show ¬ (n - 1 - d ≤ v ∧ v ≤ n - 1) by omega), if_pos h1, if_neg (show ¬ v = n - d - 1 by omega)]
      omega
    · rw [if_neg h1]
      by_cases h2 : v = n - d - 1
      · rw [if_neg (show ¬ (n - d ≤ v ∧ v ≤ n) by omega), if_pos (show n - 1 - d ≤ v ∧ v ≤ n - 1 by omega), if_pos h2]
        omega
      · rw [if_neg h2]
        by_cases h3 : n - d ≤ v ∧ v ≤ n
        · rw [if_pos h3, if_pos (show n - 1 - d ≤ v ∧ v ≤ n - 1 by omega)]; omega
        · rw [if_neg h3, if_neg (show ¬ (n - 1 - d ≤ v ∧ v ≤ n - 1) by omega)]; omega
theorem cntW_sub {V : List Int} {lo hi lo' hi' : Int} (h : ∀ v ∈ V, lo ≤ v ∧ v ≤ hi → lo' ≤ v ∧ v ≤ hi') : cntW V lo hi ≤ cntW V lo' hi' := by
  induction V with
  | nil => exact Nat.le_refl _
  | cons v V ih =>
    rw [cntW_cons, cntW_cons]
    have h1 := ih fun x hx => h x (List.mem_cons_of_mem _ hx)
    have h2 := h v (List.mem_cons_self ..)
    by_cases h3 : lo ≤ v ∧ v ≤ hi
    · rw [if_pos h3, if_pos (h2 h3)]; omega
    · rw [if_neg h3]; omega
theorem cntW_zero {V : List Int} {lo hi : Int} (h : ∀ v ∈ V, ¬ (lo ≤ v ∧ v ≤ hi)) : cntW V lo hi = 0 := by
  have := cntW_sub (V := V) (lo := lo) (hi := hi) (lo' := 1) (hi' := 0) fun v hv h2 => absurd h2 (h v hv)
  have h3 : cntW V 1 0 = 0 := by
    unfold cntW
    rw [List.length_eq_zero_iff, List.filter_eq_nil_iff]
    intro v _ h4
    have := inI_iff.1 h4
    omega
  omega
/-- The least value in a window. -/
theorem win_least {V : List Int} {lo hi : Int} (h : 0 < cntW V lo hi) : ∃ v ∈ V, lo ≤ v ∧ v ≤ hi ∧ ∀ u ∈ V, lo ≤ u → u ≤ hi → v ≤ u := by
  induction V with
  | nil => simp [cntW] at h
  | cons x V ih =>
    by_cases h1 : 0 < cntW V lo hi
    · obtain ⟨v, a, b, c, d⟩ := ih h1
      by_cases h2 : lo ≤ x ∧ x ≤ hi ∧ x < v
      · exact ⟨x, List.mem_cons_self .., h2.1, h2.2.1, fun u hu e f => by
          rcases List.mem_cons.1 hu with rfl | hu
          · exact Int.le_refl _
          · have := d u hu e f; omega⟩
      · exact ⟨v, List.mem_cons_of_mem _ a, b, c, fun u hu e f => by
          rcases List.mem_cons.1 hu with rfl | hu
          · omega
          · exact d u hu e f⟩
    · have h2 : lo ≤ x ∧ x ≤ hi := by
        rw [cntW_cons] at h
        by_cases h3 : lo ≤ x ∧ x ≤ hi
        · exact h3
        · rw [if_neg h3] at h; omega
      refine ⟨x, List.mem_cons_self .., h2.1, h2.2, fun u hu e f => ?_⟩
      rcases List.mem_cons.1 hu with rfl | hu
      · exact Int.le_refl _
      · exfalso
        apply h1
        apply Classical.byContradiction
        intro h4
        have hz : cntW V lo hi = 0 := by omega
        have h5 : u ∈ V.filter fun v => inI lo hi v := List.mem_filter.2 ⟨hu, inI_iff.2 ⟨e, f⟩⟩
        unfold cntW at hz
        rw [List.length_eq_zero_iff.1 hz] at h5
        cases h5
/-- The greatest number of values in a window of a width. -/
def mostW (V : List Int) (d : Int) : List Int → Nat
  | [] => 0
  | v :: U => max (cntW V v (v + d)) (mostW V d U)
theorem mostW_ge {V : List Int} {d : Int} : ∀ {U : List Int} {v : Int}, v ∈ U → cntW V v (v + d) ≤ mostW V d U
  | x :: U, v, h => by
    simp only [mostW]
    rcases List.mem_cons.1 h with rfl | h
    · exact Nat.le_max_left _ _
    · exact Nat.le_trans (mostW_ge h) (Nat.le_max_right _ _)
theorem mostW_at {V : List Int} {d : Int} : ∀ {U : List Int}, mostW V d U = 0 ∨ ∃ v ∈ U, mostW V d U = cntW V v (v + d)
  | [] => .inl rfl
  | x :: U => by
    simp only [mostW]
    rcases mostW_at (V := V) (d := d) (U := U) with h | ⟨v, h1, h2⟩
    · refine .inr ⟨x, List.mem_cons_self .., by omega⟩
    · by_cases h3 : cntW V x (x + d) ≤ mostW V d U
      · exact .inr ⟨v, List.mem_cons_of_mem _ h1, by omega⟩
      · exact .inr ⟨x, List.mem_cons_self .., by omega⟩
/-- No window has more. -/
theorem win_le {V : List Int} {lo d : Int} : cntW V lo (lo + d) ≤ mostW V d V := by
  by_cases h : 0 < cntW V lo (lo + d)
  · obtain ⟨v, h1, h2, h3, h4⟩ := win_least h
    refine Nat.le_trans (cntW_sub fun u hu h5 => ?_) (mostW_ge h1)
    have := h4 u hu h5.1 h5.2
    omega
  · omega
/-- The greatest of all windows from a value to another one, and 0. -/
theorem most_of {V : List Int} {d : Int} {n : Nat} {lo : Int} {M : Nat} (hd : 0 ≤ d) (hlo : ∀ v ∈ V, lo ≤ v ∧ v + d ≤ lo + n) (hub : ∀ i : Nat, i ≤ n → cntW V (lo + i - d) (lo + i) ≤ M) (hat : M = 0 ∨ ∃ i : Nat, i ≤ n ∧ M = cntW V (lo + i - d) (lo + i)) : M = mostW V d V := by
  refine Nat.le_antisymm ?_ ?_
  · rcases hat with h | ⟨i, h1, h2⟩
    · omega
    · rw [h2]
      have := win_le (V := V) (lo := lo + i - d) (d := d)
      rwa [show lo + (i : Int) - d + d = lo + i by omega] at this
  · rcases mostW_at (V := V) (d := d) (U := V) with h | ⟨v, h1, h2⟩
    · omega
    · have h3 := hlo v h1
      have h4 := hub (v + d - lo).toNat (by omega)
      rw [show lo + ((v + d - lo).toNat : Int) = v + d by omega, show v + d - d = v by omega] at h4
      omega
end Go.Oct.Fix
