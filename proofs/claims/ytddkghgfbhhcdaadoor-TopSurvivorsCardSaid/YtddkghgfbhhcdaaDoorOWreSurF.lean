/- Three sights: where the ship is. -/
import Derived.Test.YtddkghgfbhhcdaaDoorOWreWasW
set_option maxRecDepth 100000
set_option maxHeartbeats 4000000
set_option linter.unusedVariables false
set_option linter.unusedSimpArgs false
namespace Go.Oct.Wre
open Go.Oct
def sgS (a b v : Nat) : Fx.Stp := ⟨1, a, b, v, v, 0, 0, 0, 0, true, []⟩
def sg3 (A B X : Nat → Nat) : List Fx.Stp := [sgS (A 0) (B 0) (X 0), sgS (A 1) (B 1) (X 1), sgS (A 2) (B 2) (X 2)]
theorem ok_sgS {a b v : Nat} (ha : a ≤ 9) (hb : 1 ≤ b ∧ b ≤ 9) (hv : v ≤ 2000) : Fx.okStp (sgS a b v) := by
  refine .inl ⟨rfl, ⟨?_, ?_, ?_⟩, ?_, ?_, rfl⟩
  · show -20 ≤ (a : Int) ∧ (a : Int) ≤ 20; omega
  · show -20 ≤ (b : Int) ∧ (b : Int) ≤ 20; omega
  · show (a : Int) ≠ 0 ∨ (b : Int) ≠ 0; omega
  · show (-10000 : Int) ≤ v ∧ (v : Int) ≤ v ∧ (v : Int) ≤ 10000; omega
  · simp [Fx.still, sgS]
theorem can_sg3 (A B X : Nat → Nat) (p : Nat) (hp : p < 3600) : Fx.canR ⟨0, 59⟩ ⟨0, 59⟩ (sg3 A B X) p = true ↔ ∀ c, c < 3 → A c * (p / 60) + B c * (p % 60) = X c := by
  have e : Fx.canR ⟨0, 59⟩ ⟨0, 59⟩ (sg3 A B X) p = (Fx.in0 ⟨0, 59⟩ ⟨0, 59⟩ p && (Fx.hldN (sgS (A 0) (B 0) (X 0)) p && (Fx.hldN (sgS (A 1) (B 1) (X 1)) p && (Fx.hldN (sgS (A 2) (B 2) (X 2)) p && true)))) := rfl
  have hh : ∀ c, Fx.hldN (sgS (A c) (B c) (X c)) p = true ↔ A c * (p / 60) + B c * (p % 60) = X c := fun c => by
    show Fx.inI (X c) (X c) ((A c : Int) * ((p / 60 : Nat) : Int) + (B c : Int) * ((p % 60 : Nat) : Int)) = true ↔ _
    rw [Fx.inI_iff]
    constructor
    · intro h
      have : (((A c * (p / 60) + B c * (p % 60) : Nat)) : Int) = ((X c : Nat) : Int) := by push_cast; push_cast at h; omega
      exact Int.ofNat.inj this
    · intro h
      rw [← h]
      push_cast
      omega
  have h0 : Fx.in0 ⟨0, 59⟩ ⟨0, 59⟩ p = true := by
    show (Fx.inI 0 59 ((p / 60 : Nat) : Int) && Fx.inI 0 59 ((p % 60 : Nat) : Int)) = true
    rw [Bool.and_eq_true, Fx.inI_iff, Fx.inI_iff]
    omega
  rw [e, h0, Bool.true_and, Bool.and_true, Bool.and_eq_true, Bool.and_eq_true, hh, hh, hh]
  constructor
  · rintro ⟨a, b, c⟩ k hk
    have : k = 0 ∨ k = 1 ∨ k = 2 := by omega
    rcases this with rfl | rfl | rfl <;> assumption
  · exact fun h => ⟨h 0 (by omega), h 1 (by omega), h 2 (by omega)⟩
theorem where_sg3 {A B X : Nat → Nat} {E N : Nat} (hA : ∀ c, A c ≤ 9) (hB : ∀ c, 1 ≤ B c ∧ B c ≤ 9) (hX : ∀ c, X c = A c * E + B c * N) (hE : E < 60) (hN : N < 60) :
    ∃ W : List Span, ans prog O 18 [Fx.eLog ⟨0, 59⟩ ⟨0, 59⟩ false (sg3 A B X)] = some (.tuple [vl eSpan false W, .int .i64 0]) ∧ (⟨E, N⟩ : Span) ∈ W ∧ W.length ≤ 3600 ∧
      ∀ w ∈ W, ∃ e n : Nat, w = ⟨e, n⟩ ∧ e < 60 ∧ n < 60 ∧ ∀ c, c < 3 → A c * e + B c * n = X c := by
  have hv : ∀ c, X c ≤ 2000 := fun c => by
    rw [hX]
    have := Nat.mul_le_mul (hA c) (Nat.le_of_lt hE)
    have := Nat.mul_le_mul (hB c).2 (Nat.le_of_lt hN)
    omega
  have hok : Fx.okLog ⟨0, 59⟩ ⟨0, 59⟩ (sg3 A B X) := by
    refine ⟨⟨by decide, by decide, by decide⟩, ⟨by decide, by decide, by decide⟩, by show 3 ≤ 12; decide, fun j hj => ?_⟩
    have hj : j < 3 := hj
    have : j = 0 ∨ j = 1 ∨ j = 2 := by omega
    rcases this with rfl | rfl | rfl
    · exact ok_sgS (hA 0) (hB 0) (hv 0)
    · exact ok_sgS (hA 1) (hB 1) (hv 1)
    · exact ok_sgS (hA 2) (hB 2) (hv 2)
  have hp : 60 * E + N < 3600 := by omega
  have d1 : (60 * E + N) / 60 = E := by omega
  have d2 : (60 * E + N) % 60 = N := by omega
  have hm : (⟨E, N⟩ : Span) ∈ Fx.ptsL (Fx.canR ⟨0, 59⟩ ⟨0, 59⟩ (sg3 A B X)) := Fx.ptsL_mem.2 ⟨60 * E + N, hp, (can_sg3 A B X _ hp).2 fun c _ => by rw [d1, d2, hX], by show _ = (⟨((60 * E + N) / 60 : Nat), ((60 * E + N) % 60 : Nat)⟩ : Span); rw [d1, d2]⟩
  refine ⟨Fx.ptsL (Fx.canR ⟨0, 59⟩ ⟨0, 59⟩ (sg3 A B X)), ?_, hm, Fx.ptsTo_len _ _, fun w hw => ?_⟩
  · rw [Fx.Where_ok _ _ _ _ ⟨by show 3 < 2 ^ 62; decide, fun j hj => ?_⟩]
    · unfold Fx.whereV
      rw [if_pos hok, if_neg fun e => by rw [e] at hm; cases hm]
    · have hj : j < 3 := hj
      have : j = 0 ∨ j = 1 ∨ j = 2 := by omega
      rcases this with rfl | rfl | rfl <;> (show 0 < 2 ^ 62; decide)
  · obtain ⟨p, h1, h2, rfl⟩ := Fx.ptsL_mem.1 hw
    exact ⟨p / 60, p % 60, rfl, by omega, by omega, (can_sg3 A B X p h1).1 h2⟩
end Go.Oct.Wre
