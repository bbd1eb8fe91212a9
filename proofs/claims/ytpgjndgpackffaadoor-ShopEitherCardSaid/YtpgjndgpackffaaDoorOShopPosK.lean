/- The fewest tasks that lack, plain. -/
import Derived.Test.YtpgjndgpackffaaDoorOShopPosH
set_option maxRecDepth 100000
set_option maxHeartbeats 4000000
set_option linter.unusedVariables false
set_option linter.unusedSimpArgs false
namespace Go.Oct.Shop
open Go.Oct
def lackN (M : List Mn) (T I b : List Int) : Prop := able M T I < I.length ∧ (b = [] ∨ I.length < b.length ∨ (I.length = b.length ∧ lexB I b))
instance (M : List Mn) (T I b : List Int) : Decidable (lackN M T I b) := by unfold lackN; infer_instance
/-- The fewest tasks that lack, the first ones of several, of the sets below one; none: an empty list. -/
def lackF (M : List Mn) (T : List Int) : Nat → List Int
  | 0 => []
  | s + 1 => if lackN M T (memG s T.length 0) (lackF M T s) then memG s T.length 0 else lackF M T s
theorem memG_zero : ∀ (d j : Nat), memG 0 d j = []
  | 0, _ => rfl
  | d + 1, j => by simp only [memG]; rw [if_neg (by omega), show 0 / 2 = 0 from rfl]; exact memG_zero d (j + 1)
theorem lackF_one (M : List Mn) (T : List Int) : lackF M T 1 = [] := by
  simp only [lackF]
  rw [memG_zero]
  exact ite_self _
theorem lackF_ok (M : List Mn) (T : List Int) : ∀ s, (lackF M T s ≠ [] → asc T.length 0 (lackF M T s) ∧ able M T (lackF M T s) < (lackF M T s).length) ∧
    ∀ t, t < s → able M T (memG t T.length 0) < (memG t T.length 0).length → lackF M T s ≠ [] ∧ (lackF M T s).length ≤ (memG t T.length 0).length
  | 0 => ⟨fun h => absurd rfl h, fun t ht => by omega⟩
  | s + 1 => by
    obtain ⟨h1, h2⟩ := lackF_ok M T s
    have ha := memG_asc T.length s 0
    rw [Nat.zero_add] at ha
    simp only [lackF]
    by_cases hn : lackN M T (memG s T.length 0) (lackF M T s)
    · rw [if_pos hn]
      obtain ⟨n1, n2⟩ := hn
      have hne : memG s T.length 0 ≠ [] := fun e => by rw [e] at n1; simp at n1
      refine ⟨fun _ => ⟨ha, n1⟩, fun t ht hl => ⟨hne, ?_⟩⟩
      by_cases e : t = s
      · subst e; exact Nat.le_refl _
      · obtain ⟨h3, h4⟩ := h2 t (by omega) hl
        rcases n2 with n2 | n2 | n2
        · exact absurd n2 h3
        · omega
        · omega
    · rw [if_neg hn]
      refine ⟨h1, fun t ht hl => ?_⟩
      by_cases e : t = s
      · subst e
        have h3 : lackF M T t ≠ [] := fun h3 => hn ⟨hl, .inl h3⟩
        refine ⟨h3, ?_⟩
        apply Classical.byContradiction
        intro h4
        exact hn ⟨hl, .inr (.inl (by omega))⟩
      · exact h2 t (by omega) hl
def lackA (M : List Mn) (T : List Int) : List Int := lackF M T (2 ^ T.length)
theorem lackA_ok {M : List Mn} {T : List Int} (h : lackA M T ≠ []) : asc T.length 0 (lackA M T) ∧ able M T (lackA M T) < (lackA M T).length := (lackF_ok M T _).1 h
theorem lackA_min {M : List Mn} {T I : List Int} (hI : asc T.length 0 I) (h : able M T I < I.length) : lackA M T ≠ [] ∧ (lackA M T).length ≤ I.length := by
  obtain ⟨s, h1, h2⟩ := memG_all T.length 0 I (by rw [Nat.zero_add]; exact hI)
  have := (lackF_ok M T (2 ^ T.length)).2 s h1
  rw [h2] at this
  exact this h
/-- Either the ones or the others. -/
theorem either_ok (M : List Mn) (T : List Int) : lackA M T = [] ↔ (specP M T T.length []).found = true := by
  have hb := spec_best M T T.length [] (by simp)
  constructor
  · intro h
    obtain ⟨P, hP⟩ := one_of (M := M) (T := T) fun I hI => by
      apply Classical.byContradiction
      intro hc
      exact (lackA_min hI (by omega)).1 h
    exact (hb.1 P hP).1
  · intro h
    apply Classical.byContradiction
    intro hc
    obtain ⟨h1, h2⟩ := lackA_ok hc
    have := never_both (hb.2.1 h).1 h1
    omega
end Go.Oct.Shop
