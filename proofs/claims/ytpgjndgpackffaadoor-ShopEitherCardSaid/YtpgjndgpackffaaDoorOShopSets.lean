/- Rising lists, the order of lists, sets and their members, plain. -/
import Derived.Test.YtpgjndgpackffaaDoorOShopB0
set_option maxRecDepth 100000
set_option maxHeartbeats 4000000
set_option linter.unusedVariables false
set_option linter.unusedSimpArgs false
namespace Go.Oct.Shop
open Go.Oct
/-- A rising list of places, from one on. -/
def asc (n : Nat) : Nat → List Int → Prop
  | _, [] => True
  | i, x :: I => ((i : Int) ≤ x ∧ x < n) ∧ asc n (x.toNat + 1) I
theorem asc_up {n : Nat} : ∀ {i j : Nat} {I : List Int}, i ≤ j → asc n j I → asc n i I
  | _, _, [], _, _ => trivial
  | i, j, x :: I, h, ha => ⟨⟨by have := ha.1.1; omega, ha.1.2⟩, ha.2⟩
/-- The order of lists. -/
def lexB : List Int → List Int → Prop
  | [], [] => False
  | [], _ :: _ => True
  | _ :: _, [] => False
  | x :: I, y :: J => x < y ∨ (x = y ∧ lexB I J)
theorem lexB_nil (I : List Int) : ¬ lexB I [] := by cases I <;> simp [lexB]
theorem asc_nth {n : Nat} : ∀ {i : Nat} {I : List Int}, asc n i I → ∀ q, q < I.length → (i : Int) ≤ nth I q ∧ nth I q < n
  | i, x :: I, h, 0, _ => h.1
  | i, x :: I, h, q + 1, hq => by
    have h1 := asc_nth h.2 q (by simpa using hq)
    have e : nth (x :: I) (q + 1) = nth I q := rfl
    rw [e]
    have := h.1
    omega
theorem asc_len {n : Nat} : ∀ {i : Nat} {I : List Int}, asc n i I → I.length ≤ n - i
  | _, [], _ => Nat.zero_le _
  | i, x :: I, h => by
    have h1 := asc_len h.2
    have := h.1
    rw [List.length_cons]
    omega
/-- The members of a set (of some bits), from a number on. -/
def memG : Nat → Nat → Nat → List Int
  | _, 0, _ => []
  | s, d + 1, j => if s % 2 = 1 then (j : Int) :: memG (s / 2) d (j + 1) else memG (s / 2) d (j + 1)
theorem memG_asc : ∀ (d s j : Nat), asc (j + d) j (memG s d j)
  | 0, _, _ => trivial
  | d + 1, s, j => by
    have h := memG_asc d (s / 2) (j + 1)
    rw [show j + 1 + d = j + (d + 1) by omega] at h
    simp only [memG]
    split
    · exact ⟨⟨by omega, by omega⟩, by rw [Int.toNat_natCast]; exact h⟩
    · exact asc_up (by omega) h
theorem memG_all : ∀ (d j : Nat) (I : List Int), asc (j + d) j I → ∃ s, s < 2 ^ d ∧ memG s d j = I
  | 0, j, [], _ => ⟨0, by simp, rfl⟩
  | 0, j, x :: I, h => by have := h.1; omega
  | d + 1, j, [], _ => by
    obtain ⟨s, h1, h2⟩ := memG_all d (j + 1) [] trivial
    exact ⟨2 * s, by rw [Nat.pow_succ]; omega, by simp only [memG]; rw [if_neg (by omega), show 2 * s / 2 = s by omega]; exact h2⟩
  | d + 1, j, x :: I, h => by
    by_cases e : x = j
    · subst e
      have h2 := h.2
      rw [Int.toNat_natCast, show j + (d + 1) = j + 1 + d by omega] at h2
      obtain ⟨s, h3, h4⟩ := memG_all d (j + 1) I h2
      exact ⟨2 * s + 1, by rw [Nat.pow_succ]; omega, by simp only [memG]; rw [if_pos (by omega), show (2 * s + 1) / 2 = s by omega, h4]⟩
    · have h2 : asc (j + 1 + d) (j + 1) (x :: I) := by
        rw [show j + 1 + d = j + (d + 1) by omega]
        exact ⟨⟨by have := h.1.1; omega, h.1.2⟩, h.2⟩
      obtain ⟨s, h3, h4⟩ := memG_all d (j + 1) (x :: I) h2
      exact ⟨2 * s, by rw [Nat.pow_succ]; omega, by simp only [memG]; rw [if_neg (by omega), show 2 * s / 2 = s by omega]; exact h4⟩
instance lexBdec : ∀ (I J : List Int), Decidable (lexB I J)
  | [], [] => isFalse id
  | [], _ :: _ => isTrue trivial
  | _ :: _, [] => isFalse id
  | x :: I, y :: J => by
    have := lexBdec I J
    unfold lexB
    infer_instance
theorem lexB_irr : ∀ I, ¬ lexB I I
  | [] => id
  | x :: I => fun h => by
    rcases h with h | ⟨_, h⟩
    · omega
    · exact lexB_irr I h
theorem lexB_tr : ∀ {I J K : List Int}, lexB I J → lexB J K → lexB I K
  | [], [], _, h, _ => h.elim
  | _ :: _, [], _, h, _ => h.elim
  | [], _ :: _, [], _, h => h.elim
  | _ :: _, _ :: _, [], _, h => h.elim
  | [], _ :: _, _ :: _, _, _ => trivial
  | x :: I, y :: J, z :: K, h, h' => by
    rcases h with h | ⟨h, h1⟩ <;> rcases h' with h' | ⟨h', h1'⟩
    · exact .inl (by omega)
    · exact .inl (by omega)
    · exact .inl (by omega)
    · exact .inr ⟨by omega, lexB_tr h1 h1'⟩
theorem lexB_tot : ∀ {I J : List Int}, ¬ lexB I J → ¬ lexB J I → I = J
  | [], [], _, _ => rfl
  | [], _ :: _, h, _ => (h trivial).elim
  | _ :: _, [], _, h => (h trivial).elim
  | x :: I, y :: J, h, h' => by
    have e : x = y := by
      apply Classical.byContradiction
      intro e
      rcases Int.lt_or_gt_of_ne e with h1 | h1
      · exact h (.inl h1)
      · exact h' (.inl h1)
    rw [e, lexB_tot (fun h1 => h (.inr ⟨e, h1⟩)) (fun h1 => h' (.inr ⟨e.symm, h1⟩))]
theorem asc_rises {n : Nat} : ∀ {i : Nat} {I : List Int}, asc n i I → Rises I n I.length
  | _, [], _ => fun q hq => by simp at hq
  | i, x :: I, h => fun q hq => by
    cases q with
    | zero =>
      have := h.1
      exact ⟨⟨by show 0 ≤ x; omega, by show x ≤ (n : Int) - 1; omega⟩, fun h0 => by omega⟩
    | succ q =>
      have hq' : q < I.length := by simpa using hq
      have h1 := asc_rises h.2 q hq'
      refine ⟨h1.1, fun _ => ?_⟩
      have h2 := asc_nth h.2 q hq'
      by_cases e : q = 0
      · subst e
        show x < nth I 0
        have := h.1
        omega
      · have := h1.2 (by omega)
        show nth (x :: I) q < nth I q
        obtain ⟨q', rfl⟩ : ∃ q', q = q' + 1 := ⟨q - 1, by omega⟩
        exact this
end Go.Oct.Shop
