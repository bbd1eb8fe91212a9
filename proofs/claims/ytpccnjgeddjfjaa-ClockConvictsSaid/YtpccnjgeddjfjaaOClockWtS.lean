/- Watches: the specification's Jumped and Since. -/
import Derived.Test.YtpccnjgeddjfjaaOClockWtR
set_option maxRecDepth 100000
set_option maxHeartbeats 400000
set_option linter.unusedVariables false
set_option linter.unusedSimpArgs false
namespace Go.Oct.Clock
open Go.Oct
open Classical in
/-- With all three clocks as jumpers a watch can be. -/
theorem can7 (w : Wt) (hw : okWt w) (n : Nat) : canBe w 7 n := by
  have h2 := hw.1.2.2
  refine ⟨fun k d => if k = 0 then nth w.F d + nth w.S d else if k = 1 then nth w.S d else 0, fun d hd => ?_, fun d hd => ?_, fun d k h0 hd hk hj => ?_⟩
  · simp; omega
  · simp; omega
  · exfalso
    obtain rfl | rfl | rfl : k = 0 ∨ k = 1 ∨ k = 2 := by omega
    · revert hj; decide
    · revert hj; decide
    · revert hj; decide
def pc (s : Nat) : Nat := s % 2 + s / 2 % 2 + s / 4 % 2
def cntB (s : Nat) : Nat → Nat
  | 0 => 0
  | n + 1 => cntB s n + if s / 2 ^ n % 2 = 1 then 1 else 0
theorem cntB_le (s : Nat) : ∀ n, cntB s n ≤ n
  | 0 => Nat.le_refl _
  | n + 1 => by
    have := cntB_le s n
    simp only [cntB]
    split <;> omega
theorem cntB_all : ∀ s, s < 8 → cntB s 62 = pc s := by decide +kernel
open Classical in
/-- The sets of so many jumpers with which a watch can be, of the sets below one. -/
noncomputable def jl (w : Wt) (m : Nat) : Nat → List Int
  | 0 => []
  | s + 1 => jl w m s ++ if pc s = m ∧ canBe w s w.F.length then [(s : Int)] else []
theorem jl_yes {w : Wt} {m s : Nat} (h : pc s = m ∧ canBe w s w.F.length) : jl w m (s + 1) = jl w m s ++ [(s : Int)] := by
  simp only [jl]
  rw [if_pos h]
theorem jl_no {w : Wt} {m s : Nat} (h : ¬ (pc s = m ∧ canBe w s w.F.length)) : jl w m (s + 1) = jl w m s := by
  simp only [jl]
  rw [if_neg h, List.append_nil]
theorem jl_len (w : Wt) (m : Nat) : ∀ s, (jl w m s).length ≤ s
  | 0 => Nat.le_refl _
  | s + 1 => by
    have := jl_len w m s
    simp only [jl, List.length_append]
    split
    · simp; omega
    · simp; omega
def JumpOf (w : Wt) (L : List Int) : Prop := ∃ m, m ≤ 3 ∧ L = jl w m 8 ∧ L ≠ [] ∧ ∀ m', m' < m → jl w m' 8 = []
theorem JumpOf.uniq {w : Wt} {L L' : List Int} (h : JumpOf w L) (h' : JumpOf w L') : L = L' := by
  obtain ⟨m, _, h2, h3, h4⟩ := h
  obtain ⟨n, _, k2, k3, k4⟩ := h'
  rcases Nat.lt_trichotomy m n with e | e | e
  · have := k4 m e; rw [← h2] at this; exact absurd this h3
  · subst e; rw [h2, k2]
  · have := h4 n e; rw [← k2] at this; exact absurd this k3
theorem jl7 {w : Wt} (hw : okWt w) : jl w 3 8 ≠ [] := by
  rw [jl_yes ⟨by decide, can7 w hw _⟩]
  simp
def SinceOf (w : Wt) (d e : Int) : Prop := (∃ n : Nat, n < w.F.length ∧ d = n ∧ e = 0 ∧ ¬ canBe w 0 (n + 1) ∧ ∀ i, i < n → canBe w 0 (i + 1)) ∨ (d = 0 ∧ e = 4 ∧ ∀ i, i < w.F.length → canBe w 0 (i + 1))
theorem SinceOf.uniq {w : Wt} {d e d' e' : Int} (h : SinceOf w d e) (h' : SinceOf w d' e') : d = d' ∧ e = e' := by
  rcases h with ⟨n, h1, h2, h3, h4, h5⟩ | ⟨h1, h2, h3⟩ <;> rcases h' with ⟨m, k1, k2, k3, k4, k5⟩ | ⟨k1, k2, k3⟩
  · rcases Nat.lt_trichotomy n m with c | c | c
    · exact absurd (k5 n c) h4
    · subst c; omega
    · exact absurd (h5 m c) k4
  · exact absurd (k3 n h1) h4
  · exact absurd (h3 m k1) k4
  · omega
end Go.Oct.Clock
