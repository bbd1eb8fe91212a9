/- What a list of lengths takes, as sums; rising lists; a number more. -/
import Derived.Test.YtpgjndgpackffaaDoorOShopSawX
set_option maxRecDepth 100000
set_option maxHeartbeats 4000000
set_option linter.unusedVariables false
set_option linter.unusedSimpArgs false
namespace Go.Oct.Shop
open Go.Oct
def isum (L I : List Int) : Int := (I.map fun x => nth L x.toNat).sum
theorem tot_true (cut : Int) (L : List Int) : ∀ I, tot cut L true I = (I.length : Int) * cut + isum L I
  | [] => by simp [tot, isum]
  | x :: I => by
    have h := tot_true cut L I
    have e : ((I.length + 1 : Nat) : Int) * cut = I.length * cut + cut := by rw [Int.natCast_succ, Int.add_mul, Int.one_mul]
    have s : isum L (x :: I) = nth L x.toNat + isum L I := by simp [isum]
    have n : nd cut true (nth L x.toNat) = nth L x.toNat + cut := by simp [nd]
    simp only [tot, List.length_cons]
    rw [h, e, s, n]
    omega
theorem tot_false (cut : Int) (L : List Int) (I : List Int) : tot cut L false I = max 0 ((I.length : Int) - 1) * cut + isum L I := by
  cases I with
  | nil =>
    have e : max (0 : Int) ((([] : List Int).length : Int) - 1) = 0 := by simp; omega
    rw [e]; simp [tot, isum]
  | cons x I =>
    have h := tot_true cut L I
    have s : isum L (x :: I) = nth L x.toNat + isum L I := by simp [isum]
    have n : nd cut false (nth L x.toNat) = nth L x.toNat := by simp [nd]
    have m : max 0 (((x :: I).length : Int) - 1) = I.length := by simp
    simp only [tot]
    rw [h, s, n, m]
    omega
theorem asc_rises {n : Nat} : ∀ {i : Nat} {I : List Int}, asc n i I → Rises I n I.length
  | _, [], _ => fun q hq => by simp at hq
  | i, x :: I, h => fun q hq => by
    cases q with
    | zero =>
      have := h.1
      exact ⟨⟨by show 0 ≤ x; omega, by show x ≤ (n : Int) - 1; omega⟩, fun h0 => by omega⟩
    | succ q =>
      have hq' : q < I.length := by simpa using hq
      have h1 := asc_rises h.2 q hq'
      refine ⟨h1.1, fun _ => ?_⟩
      have h2 := asc_nth h.2 q hq'
      by_cases e : q = 0
      · subst e
        show x < nth I 0
        have := h.1
        omega
      · have := h1.2 (by omega)
        show nth (x :: I) q < nth I q
        obtain ⟨q', rfl⟩ : ∃ q', q = q' + 1 := ⟨q - 1, by omega⟩
        exact this
end Go.Oct.Shop
