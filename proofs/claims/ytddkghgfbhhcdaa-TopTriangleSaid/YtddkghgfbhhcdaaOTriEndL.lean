/- RoundsEnds: it answers true at all arguments. -/
import Derived.Test.YtddkghgfbhhcdaaOTriLw
set_option maxRecDepth 100000
set_option maxHeartbeats 8000000
set_option linter.unusedVariables false
set_option linter.unusedSimpArgs false
namespace Go.Oct.Tri
open Go.Oct
theorem setA_len (A : List An) (k : Nat) (lo hi : Int) : (setA A k lo hi).length = A.length := by simp [setA]
theorem setA_nth {A : List An} {k j : Nat} (hk : k < A.length) (lo hi : Int) : nth (setA A k lo hi) j = if j = k then ⟨(nth A k).t, (nth A k).s, lo, hi⟩ else nth A j := by unfold setA; exact nth_set hk
theorem okNet_setA {T : Int} {C : List Bool} {A : List An} (hok : okNet T C A) {k : Nat} (hk : k < A.length) {lo hi : Int} (h1 : 0 ≤ lo) (h2 : lo ≤ hi) (h3 : hi ≤ 648000) : okNet T C (setA A k lo hi) := by
  obtain ⟨o1, o2, o3, o4, o5, o6⟩ := hok
  refine ⟨o1, o2, by rw [setA_len]; exact o3, fun i hi' => ?_, fun i hi' j hj => ?_, fun t ht => ?_⟩
  · rw [setA_len] at hi'
    rw [setA_nth hk]
    by_cases e : i = k
    · rw [if_pos e]
      obtain ⟨a1, a2, a3⟩ := o4 k hk
      exact ⟨a1, a2, h1, h2, h3⟩
    · rw [if_neg e]; exact o4 i hi'
  · rw [setA_len] at hi'
    have h := o5 i hi' j hj
    rw [setA_nth hk, setA_nth hk]
    by_cases e : i = k
    · have e2 : ¬ j = k := by omega
      rw [if_pos e, if_neg e2]; rw [e] at h; exact h
    · by_cases e2 : j = k
      · rw [if_neg e, if_pos e2]; rw [e2] at h; exact h
      · rw [if_neg e, if_neg e2]; exact h
  · rw [← o6 t ht]
    unfold cntT setA
    have key : ∀ (A : List An) (k : Nat) (a : An), k < A.length → a.t = (nth A k).t → ((A.set k a).filter fun a => decide (a.t = (t : Int))).length = (A.filter fun a => decide (a.t = (t : Int))).length := by
      intro A
      induction A with
      | nil => intro k a h; simp at h
      | cons x A ih =>
        intro k a h he
        cases k with
        | zero =>
          simp only [List.set_cons_zero, nth_zero] at he ⊢
          simp only [List.filter_cons, he]
          split <;> simp
        | succ k =>
          have := ih k a (by simpa using h) (by simpa using he)
          simp only [List.set_cons_succ, List.filter_cons]
          split <;> simp [this]
    exact key A k _ hk rfl
theorem not_proved {N : Nat} {C : List Bool} {A : List An} (hok : okNet N C A) {h : List Int} (hc : isCl N C A h) : ¬ Proved N C A := by
  rintro ⟨P, Q, small, h1, h2⟩
  exact never_both hok hc h1 small h2
end Go.Oct.Tri
