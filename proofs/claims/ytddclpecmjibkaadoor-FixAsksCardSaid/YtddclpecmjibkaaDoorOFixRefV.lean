/- Logs: to where a run leads, as the specification finds it. -/
import Derived.Test.YtddclpecmjibkaaDoorOFixRefM
set_option maxRecDepth 100000
set_option maxHeartbeats 8000000
set_option linter.unusedVariables false
set_option linter.unusedSimpArgs false
namespace Go.Oct.Fix
open Go.Oct
/-- East and north of the point from which a run by so many comes; or to which it goes. -/
def frE (back : Bool) (n : Nat) (y : Int) : Int := bif back then ((n / 60 : Nat) : Int) + y else ((n / 60 : Nat) : Int) - y
def frN (back : Bool) (n : Nat) (y : Int) : Int := bif back then ((n % 60 : Nat) : Int) + y else ((n % 60 : Nat) : Int) - y
open Classical in
noncomputable def eB (s : Stp) (back : Bool) (f : Nat → Bool) (b : Int) (n : Nat) : Bool := decide (∃ y, s.elo ≤ y ∧ y < b ∧ (0 ≤ frE back n y ∧ frE back n y ≤ 59) ∧ f (60 * frE back n y + ((n % 60 : Nat) : Int)).toNat = true)
open Classical in
noncomputable def nB (s : Stp) (back : Bool) (f : Nat → Bool) (b : Int) (n : Nat) : Bool := decide (∃ y, s.nlo ≤ y ∧ y < b ∧ (0 ≤ frN back n y ∧ frN back n y ≤ 59) ∧ f (60 * ((n / 60 : Nat) : Int) + frN back n y).toNat = true)
open Classical in
theorem eB_iff {s : Stp} {back : Bool} {f : Nat → Bool} {n : Nat} {b : Int} : eB s back f b n = true ↔ ∃ y, s.elo ≤ y ∧ y < b ∧ (0 ≤ frE back n y ∧ frE back n y ≤ 59) ∧ f (60 * frE back n y + ((n % 60 : Nat) : Int)).toNat = true := by
  unfold eB
  exact decide_eq_true_iff
open Classical in
theorem nB_iff {s : Stp} {back : Bool} {f : Nat → Bool} {n : Nat} {b : Int} : nB s back f b n = true ↔ ∃ y, s.nlo ≤ y ∧ y < b ∧ (0 ≤ frN back n y ∧ frN back n y ≤ 59) ∧ f (60 * ((n / 60 : Nat) : Int) + frN back n y).toNat = true := by
  unfold nB
  exact decide_eq_true_iff
theorem eB_none {s : Stp} {back : Bool} {f : Nat → Bool} {n : Nat} : eB s back f s.elo n = false := by
  cases h : eB s back f s.elo n with
  | false => rfl
  | true => obtain ⟨y, h1, h2, _⟩ := eB_iff.1 h; omega
theorem nB_none {s : Stp} {back : Bool} {f : Nat → Bool} {n : Nat} : nB s back f s.nlo n = false := by
  cases h : nB s back f s.nlo n with
  | false => rfl
  | true => obtain ⟨y, h1, h2, _⟩ := nB_iff.1 h; omega
theorem eB_succ {s : Stp} {back : Bool} {f : Nat → Bool} {n : Nat} {b : Int} (hb : s.elo ≤ b) : eB s back f (b + 1) n = (eB s back f b n || (decide (0 ≤ frE back n b ∧ frE back n b ≤ 59) && f (60 * frE back n b + ((n % 60 : Nat) : Int)).toNat)) := by
  rw [Bool.eq_iff_iff, Bool.or_eq_true, Bool.and_eq_true, eB_iff, eB_iff, decide_eq_true_eq]
  constructor
  · rintro ⟨y, h1, h2, h3, h4⟩
    by_cases e : y = b
    · subst e; exact .inr ⟨h3, h4⟩
    · exact .inl ⟨y, h1, by omega, h3, h4⟩
  · rintro (⟨y, h1, h2, h3, h4⟩ | ⟨h3, h4⟩)
    · exact ⟨y, h1, by omega, h3, h4⟩
    · exact ⟨b, hb, by omega, h3, h4⟩
theorem nB_succ {s : Stp} {back : Bool} {f : Nat → Bool} {n : Nat} {b : Int} (hb : s.nlo ≤ b) : nB s back f (b + 1) n = (nB s back f b n || (decide (0 ≤ frN back n b ∧ frN back n b ≤ 59) && f (60 * ((n / 60 : Nat) : Int) + frN back n b).toNat)) := by
  rw [Bool.eq_iff_iff, Bool.or_eq_true, Bool.and_eq_true, nB_iff, nB_iff, decide_eq_true_eq]
  constructor
  · rintro ⟨y, h1, h2, h3, h4⟩
    by_cases e : y = b
    · subst e; exact .inr ⟨h3, h4⟩
    · exact .inl ⟨y, h1, by omega, h3, h4⟩
  · rintro (⟨y, h1, h2, h3, h4⟩ | ⟨h3, h4⟩)
    · exact ⟨y, h1, by omega, h3, h4⟩
    · exact ⟨b, hb, by omega, h3, h4⟩
/-- Both passes together. -/
theorem two_pass {s : Stp} {back : Bool} {f : Nat → Bool} {n : Nat} (hn : n < 3600) : nB s back (eB s back f (s.ehi + 1)) (s.nhi + 1) n = bif back then mb s f n else mv s f n := by
  rw [Bool.eq_iff_iff, nB_iff]
  constructor
  · rintro ⟨y, h1, h2, h3, h4⟩
    rw [eB_iff] at h4
    obtain ⟨x, h5, h6, h7, h8⟩ := h4
    cases back
    · simp only [frN, frE, cond_false] at h3 h7 h8 ⊢
      refine mv_iff.2 ⟨_, ?_, h8, ?_⟩
      · omega
      · unfold go goI
        rw [Bool.and_eq_true, inI_iff, inI_iff]
        omega
    · simp only [frN, frE, cond_true] at h3 h7 h8 ⊢
      refine mb_iff.2 ⟨_, ?_, h8, ?_⟩
      · omega
      · unfold go goI
        rw [Bool.and_eq_true, inI_iff, inI_iff]
        omega
  · intro h
    cases back
    · simp only [cond_false] at h
      obtain ⟨m, h1, h2, h3⟩ := mv_iff.1 h
      unfold go goI at h3
      rw [Bool.and_eq_true, inI_iff, inI_iff] at h3
      refine ⟨((n % 60 : Nat) : Int) - ((m % 60 : Nat) : Int), by omega, by omega, by simp only [frN, cond_false]; omega, eB_iff.2 ⟨((n / 60 : Nat) : Int) - ((m / 60 : Nat) : Int), by omega, by omega, ?_, ?_⟩⟩
      · simp only [frN, frE, cond_false]; omega
      · simp only [frN, frE, cond_false]
        rw [← h2]; congr 1; omega
    · simp only [cond_true] at h
      obtain ⟨m, h1, h2, h3⟩ := mb_iff.1 h
      unfold go goI at h3
      rw [Bool.and_eq_true, inI_iff, inI_iff] at h3
      refine ⟨((m % 60 : Nat) : Int) - ((n % 60 : Nat) : Int), by omega, by omega, by simp only [frN, cond_true]; omega, eB_iff.2 ⟨((m / 60 : Nat) : Int) - ((n / 60 : Nat) : Int), by omega, by omega, ?_, ?_⟩⟩
      · simp only [frN, frE, cond_true]; omega
      · simp only [frN, frE, cond_true]
        rw [← h2]; congr 1; omega
end Go.Oct.Fix
