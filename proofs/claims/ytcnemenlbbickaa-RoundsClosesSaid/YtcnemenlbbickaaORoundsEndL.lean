/- RoundsEnds: it answers true at all arguments. -/
import Derived.Test.YtcnemenlbbickaaORoundsLw
set_option maxRecDepth 100000
set_option maxHeartbeats 8000000
set_option linter.unusedVariables false
set_option linter.unusedSimpArgs false
namespace Go.Oct.Rounds
open Go.Oct
theorem setA_len (A : List An) (k : Nat) (lo hi : Int) : (setA A k lo hi).length = A.length := by simp [setA]
theorem setA_nth {A : List An} {k j : Nat} (hk : k < A.length) (lo hi : Int) : nth (setA A k lo hi) j = if j = k then ⟨(nth A k).t, (nth A k).s, lo, hi⟩ else nth A j := by unfold setA; exact nth_set hk
theorem okNet_setA {T : Int} {C : List Bool} {A : List An} (hok : okNet T C A) {k : Nat} (hk : k < A.length) {lo hi : Int} (h1 : 0 ≤ lo) (h2 : lo ≤ hi) (h3 : hi ≤ 648000) : okNet T C (setA A k lo hi) := by
  obtain ⟨o1, o2, o3, o4, o5, o6⟩ := hok
  refine ⟨o1, o2, by rw [setA_len]; exact o3, fun i hi' => ?_, fun i hi' j hj => ?_, fun t ht => ?_⟩
  · rw [setA_len] at hi'
    rw [setA_nth hk]
    by_cases e : i = k
    · rw [if_pos e]
      obtain ⟨a1, a2, a3⟩ := o4 k hk
      exact ⟨a1, a2, h1, h2, h3⟩
    · rw [if_neg e]; exact o4 i hi'
  · rw [setA_len] at hi'
    have h := o5 i hi' j hj
    rw [setA_nth hk, setA_nth hk]
    by_cases e : i = k
    · have e2 : ¬ j = k := by omega
      rw [if_pos e, if_neg e2]; rw [e] at h; exact h
    · by_cases e2 : j = k
      · rw [if_neg e, if_pos e2]; rw [e2] at h; exact h
      · rw [if_neg e, if_neg e2]; exact h
  · rw [← o6 t ht]
    unfold cntT setA
    have key : ∀ (A : List An) (k : Nat) (a : An), k < A.length → a.t = (nth A k).t → ((A.set k a).filter fun a => decide (a.t = (t : Int))).length = (A.filter fun a => decide (a.t = (t : Int))).length := by
      intro A
      induction A with
      | nil => intro k a h; simp at h
      | cons x A ih =>
        intro k a h he
        cases k with
        | zero =>
          simp only [List.set_cons_zero, nth_zero] at he ⊢
          simp only [List.filter_cons, he]
          split <;> simp
        | succ k =>
          have := ih k a (by simpa using h) (by simpa using he)
          simp only [List.set_cons_succ, List.filter_cons]
          split <;> simp [this]
    exact key A k _ hk rfl
theorem sAt_setA (C : List Bool) {A : List An} {k : Nat} (hk : k < A.length) (lo hi : Int) (p : Nat) : ∀ h, sAt (edges C (setA A k lo hi)) h p = sAt (edges C A) h p := by
  unfold setA edges
  have key : ∀ (A : List An) (k : Nat) (a : An) (h : List Int), k < A.length → a.t = (nth A k).t → a.s = (nth A k).s → sAt ((A.set k a).map (ed C)) h p = sAt (A.map (ed C)) h p := by
    intro A
    induction A with
    | nil => intro k a h h1; simp at h1
    | cons x A ih =>
      intro k a h h1 h2 h3
      cases h with
      | nil => cases k <;> rfl
      | cons y h =>
        cases k with
        | zero =>
          simp only [nth_zero] at h2 h3
          have : (ed C a).at p ↔ (ed C x).at p := by unfold Ed.at ed; rw [h2, h3]
          simp only [List.set_cons_zero, List.map_cons, sAt]
          by_cases e : (ed C x).at p
          · rw [if_pos e, if_pos (this.2 e)]
          · rw [if_neg e, if_neg fun h => e (this.1 h)]
        | succ k =>
          have := ih k a h (by simpa using h1) (by simpa using h2) (by simpa using h3)
          simp only [List.set_cons_succ, List.map_cons, sAt, this]
  exact fun h => key A k _ h hk rfl rfl
/-- Angles that close, within other bounds of one angle. -/
theorem isCl_setA {T : Int} {C : List Bool} {A : List An} {k : Nat} (hk : k < A.length) {lo hi : Int} {h : List Int} : isCl T C (setA A k lo hi) h ↔ (h.length = A.length ∧ (∀ j, j < A.length → j ≠ k → (nth A j).lo ≤ nth h j ∧ nth h j ≤ (nth A j).hi) ∧ lo ≤ nth h k ∧ nth h k ≤ hi) ∧ ∀ p, p < 16 → sAt (edges C A) h p = Bt0 T C p := by
  unfold isCl
  rw [← inA_iff]
  unfold inA
  rw [setA_len]
  constructor
  · rintro ⟨⟨h1, h2⟩, h3⟩
    refine ⟨⟨h1, fun j hj hne => ?_, ?_⟩, fun p hp => ?_⟩
    · have := h2 j hj; rw [setA_nth hk, if_neg hne] at this; exact this
    · have := h2 k hk; rw [setA_nth hk, if_pos rfl] at this; exact this
    · have := h3 p hp; rw [sAt_setA C hk] at this; exact this
  · rintro ⟨⟨h1, h2, h4⟩, h3⟩
    refine ⟨⟨h1, fun j hj => ?_⟩, fun p hp => ?_⟩
    · rw [setA_nth hk]
      by_cases e : j = k
      · rw [if_pos e, e]; exact h4
      · rw [if_neg e]; exact h2 j hj e
    · rw [sAt_setA C hk]; exact h3 p hp
theorem isCl_sub {T : Int} {C : List Bool} {A : List An} {k : Nat} (hk : k < A.length) {lo hi : Int} (h1 : (nth A k).lo ≤ lo) (h2 : hi ≤ (nth A k).hi) {h : List Int} : isCl T C (setA A k lo hi) h ↔ isCl T C A h ∧ lo ≤ nth h k ∧ nth h k ≤ hi := by
  rw [isCl_setA hk]
  unfold isCl
  rw [← inA_iff]
  unfold inA
  constructor
  · rintro ⟨⟨a1, a2, a3⟩, a4⟩
    refine ⟨⟨⟨a1, fun j hj => ?_⟩, a4⟩, a3⟩
    by_cases e : j = k
    · rw [e]; omega
    · exact a2 j hj e
  · rintro ⟨⟨⟨a1, a2⟩, a4⟩, a3⟩
    exact ⟨⟨a1, fun j hj _ => a2 j hj, a3⟩, a4⟩
theorem not_proved {N : Nat} {C : List Bool} {A : List An} (hok : okNet N C A) {h : List Int} (hc : isCl N C A h) : ¬ Proved N C A := by
  rintro ⟨P, Q, small, h1, h2⟩
  exact never_both hok hc h1 small h2
end Go.Oct.Rounds
