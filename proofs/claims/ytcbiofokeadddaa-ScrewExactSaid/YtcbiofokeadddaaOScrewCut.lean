/- Cut, in the program. -/
import Derived.Test.YtcbiofokeadddaaOScrewNearP
set_option maxRecDepth 100000
set_option maxHeartbeats 4000000
set_option linter.unusedVariables false
set_option linter.unusedSimpArgs false
namespace Go.Oct.Screw
open Go.Oct
theorem low_eq {x y a b : Nat} (hx : 0 < x) (hy : 0 < y) (ha : 0 < a) (hb : 0 < b) : (x / Nat.gcd x y = a / Nat.gcd a b ∧ y / Nat.gcd x y = b / Nat.gcd a b) ↔ x * b = a * y := by
  have hg : 0 < Nat.gcd x y := Nat.gcd_pos_of_pos_left y hx
  have hh : 0 < Nat.gcd a b := Nat.gcd_pos_of_pos_left b ha
  have c1 := Nat.coprime_div_gcd_div_gcd hg
  have c2 := Nat.coprime_div_gcd_div_gcd hh
  have e1 := Nat.div_mul_cancel (Nat.gcd_dvd_left x y)
  have e2 := Nat.div_mul_cancel (Nat.gcd_dvd_right x y)
  have e3 := Nat.div_mul_cancel (Nat.gcd_dvd_left a b)
  have e4 := Nat.div_mul_cancel (Nat.gcd_dvd_right a b)
  generalize Nat.gcd x y = g at *
  generalize Nat.gcd a b = h at *
  generalize x / g = x' at *
  generalize y / g = y' at *
  generalize a / h = a' at *
  generalize b / h = b' at *
  subst e1 e2 e3 e4
  constructor
  · rintro ⟨rfl, rfl⟩
    rw [Nat.mul_mul_mul_comm, Nat.mul_mul_mul_comm x' h y' g, Nat.mul_comm g h]
  · intro h1
    have h2 : x' * b' = a' * y' := by
      have : (g * h) * (x' * b') = (g * h) * (a' * y') := by
        calc (g * h) * (x' * b') = x' * g * (b' * h) := by rw [Nat.mul_mul_mul_comm x' g b' h, Nat.mul_comm (g * h)]
          _ = a' * h * (y' * g) := h1
          _ = (g * h) * (a' * y') := by rw [Nat.mul_mul_mul_comm a' h y' g, Nat.mul_comm h g, Nat.mul_comm (g * h)]
      exact Nat.eq_of_mul_eq_mul_left (Nat.mul_pos hg hh) this
    have d1 : x' ∣ a' := c1.dvd_of_dvd_mul_right ⟨b', h2.symm⟩
    have d2 : a' ∣ x' := c2.dvd_of_dvd_mul_right ⟨y', h2⟩
    have e := Nat.dvd_antisymm d1 d2
    subst e
    have hx0 : 0 < x' := Nat.pos_of_ne_zero fun e => by subst e; simp at hx
    exact ⟨rfl, (Nat.eq_of_mul_eq_mul_left hx0 h2).symm⟩
/-- What a fold keeps, once it is exact. -/
theorem near_exact {ws : List Int} {ln ld num den : Int} (hl : okLathe ws ln ld) (hn : 1 ≤ num ∧ num ≤ 1000) (hd : 1 ≤ den ∧ den ≤ 1000) {L : List (List Int)} {g : List Int} (hL : ∀ x ∈ L, okGears ws.length x) (hg : okGears ws.length g) (hne : ∀ x ∈ L, far ws ln ld num den x ≠ 0) (h0 : far ws ln ld num den g = 0) :
    near ws ln ld num den (L ++ [g]) = some (g, 0, gO ws ld g) := by
  rw [near_add]
  have hok := near_ok ws ln ld num den L
  cases hnr : near ws ln ld num den L with
  | none => simp only [nstep, h0]
  | some x =>
    obtain ⟨b, o, u⟩ := x
    rw [hnr] at hok
    obtain ⟨h1, rfl, rfl⟩ := hok
    have e1 := hne b h1
    have e2 := (far_bd hl (hL b h1) hn hd).2.2.1
    have e3 := (g_bd hl hg).2.1
    simp only [nstep]
    rw [if_pos, h0]
    rw [h0, Int.zero_mul]
    exact Int.mul_pos (by omega) (by omega)
theorem near_stays {ws : List Int} {ln ld num den : Int} (hl : okLathe ws ln ld) (hn : 1 ≤ num ∧ num ≤ 1000) (hd : 1 ≤ den ∧ den ≤ 1000) {g : List Int} (hg : okGears ws.length g) : ∀ (R L : List (List Int)), (∀ x ∈ R, okGears ws.length x) → near ws ln ld num den L = some (g, 0, gO ws ld g) → near ws ln ld num den (L ++ R) = some (g, 0, gO ws ld g)
  | [], L, _, h => by rw [List.append_nil]; exact h
  | x :: R, L, hR, h => by
    have := near_stays hl hn hd hg R (L ++ [x]) (fun y hy => hR y (List.mem_cons_of_mem _ hy)) (by
      rw [near_add, h]
      have e2 := (far_bd hl (hR x (List.mem_cons_self ..)) hn hd).2.2.1
      have e3 := (g_bd hl hg).2.1
      simp only [nstep]
      rw [if_neg]
      rw [Int.zero_mul]
      have := Int.mul_nonneg e2 (show 0 ≤ gO ws ld g by omega)
      omega)
    rw [List.append_assoc] at this
    exact this
theorem far_zero {ws : List Int} {ln ld : Int} {g : List Int} (num den : Nat) (hl : okLathe ws ln ld) (hg : okGears ws.length g) (hn : 1 ≤ num) (hd : 1 ≤ den) {x y : Nat} (hx : gE ws ln g = x) (hy : gO ws ld g = y) :
    far ws ln ld num den g = 0 ↔ (x / Nat.gcd x y = num / Nat.gcd num den ∧ y / Nat.gcd x y = den / Nat.gcd num den) := by
  obtain ⟨⟨g1, _⟩, g2, _⟩ := g_bd hl hg
  rw [low_eq (by omega) (by omega) (by omega) (by omega)]
  unfold far
  rw [hx, hy]
  constructor
  · intro h
    have : (x : Int) * den = num * y := by omega
    exact_mod_cast this
  · intro h
    have : (x : Int) * den = num * y := by exact_mod_cast h
    omega
end Go.Oct.Screw
