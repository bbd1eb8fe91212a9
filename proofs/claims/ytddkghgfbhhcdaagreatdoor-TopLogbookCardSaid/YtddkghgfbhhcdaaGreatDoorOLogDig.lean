/- Numbers in decimal: Text and Read. -/
import Derived.Test.YtddkghgfbhhcdaaGreatDoorOLogB0
set_option maxRecDepth 100000
set_option maxHeartbeats 4000000
set_option linter.unusedVariables false
set_option linter.unusedSimpArgs false
namespace Go.Oct.Log
open Go.Oct
/-- The bytes of a number. -/
def dg (n : Nat) : List Int := if h : n < 10 then [48 + (n : Int)] else dg (n / 10) ++ [48 + ((n % 10 : Nat) : Int)]
theorem dg_small {n : Nat} (h : n < 10) : dg n = [48 + (n : Int)] := by rw [dg, dif_pos h]
theorem dg_big {n : Nat} (h : ¬ n < 10) : dg n = dg (n / 10) ++ [48 + ((n % 10 : Nat) : Int)] := by rw [dg, dif_neg h]
/-- The number of bytes. -/
def val (l : List Int) : Int := l.foldl (fun a x => 10 * a + (x - 48)) 0
theorem val_app (l : List Int) (x : Int) : val (l ++ [x]) = 10 * val l + (x - 48) := by unfold val; rw [List.foldl_append]; rfl
/-- Digits. -/
def digs (l : List Int) : Prop := ∀ x ∈ l, 48 ≤ x ∧ x ≤ 57
theorem digs.byt {l : List Int} (h : digs l) : byt l := fun x hx => by have := h x hx; omega
theorem dg_digs : ∀ n, digs (dg n) := by
  intro n
  induction n using Nat.strongRecOn with
  | ind n ih =>
    by_cases h : n < 10
    · rw [dg_small h]
      intro x hx
      obtain rfl := List.mem_singleton.1 hx
      omega
    · rw [dg_big h]
      intro x hx
      rcases List.mem_append.1 hx with hx | hx
      · exact ih (n / 10) (by omega) x hx
      · obtain rfl := List.mem_singleton.1 hx
        omega
theorem val_dg : ∀ n, val (dg n) = n := by
  intro n
  induction n using Nat.strongRecOn with
  | ind n ih =>
    by_cases h : n < 10
    · rw [dg_small h]; unfold val; simp; omega
    · rw [dg_big h, val_app, ih (n / 10) (by omega)]; omega
theorem dg_ne (n : Nat) : 1 ≤ (dg n).length := by
  by_cases h : n < 10
  · rw [dg_small h]; simp
  · rw [dg_big h]; simp
theorem dg_len : ∀ k n : Nat, n < 10 ^ (k + 1) → (dg n).length ≤ k + 1
  | 0, n, h => by rw [dg_small (by simpa using h)]; simp
  | k + 1, n, h => by
    by_cases h2 : n < 10
    · rw [dg_small h2]; simp
    · rw [dg_big h2]
      have := dg_len k (n / 10) (by rw [Nat.pow_succ] at h; omega)
      simp
      omega
/-- No number but 0 begins with 0. -/
theorem dg_first : ∀ n : Nat, 1 ≤ n → ∃ x l, dg n = x :: l ∧ x ≠ 48 := by
  intro n
  induction n using Nat.strongRecOn with
  | ind n ih =>
    intro h1
    by_cases h : n < 10
    · exact ⟨_, [], dg_small h, by omega⟩
    · obtain ⟨x, l, e, hx⟩ := ih (n / 10) (by omega) (by omega)
      exact ⟨x, l ++ [48 + ((n % 10 : Nat) : Int)], by rw [dg_big h, e]; rfl, hx⟩
theorem dg_lead (n : Nat) (h : 1 < (dg n).length) : nth (dg n) 0 ≠ 48 := by
  by_cases h2 : n < 10
  · rw [dg_small h2] at h; simp at h
  · obtain ⟨x, l, e, hx⟩ := dg_first n (by omega)
    rw [e]; exact hx
theorem aconv_u8 (q : IntKind) (n : Int) (h : 0 ≤ n) (h2 : n ≤ 255) : aconv .u8 (.int q n) = some (.int .u8 n) := by
  have : wr .u8 n = n := by
    show IntKind.wrap .u8 n = n
    simp only [IntKind.wrap, IntKind.bits, IntKind.signed]
    simp
    omega
  simp only [aconv, this]
theorem Text_ok : ∀ n : Nat, (n : Int) < 9223372036854775807 → ans prog O 20 [.int .i64 (n : Int)] = some (.str (strA (dg n))) := by
  intro n
  induction n using Nat.strongRecOn with
  | ind n ih =>
    intro hn
    obtain ⟨d, hd⟩ : ∃ d : Nat, n % 10 = d := ⟨_, rfl⟩
    have e1 : (n : Int).tmod 10 = (d : Int) := by rw [Int.tmod_eq_emod_of_nonneg (by omega)]; omega
    have e2 : (n : Int).tdiv 10 = ((n / 10 : Nat) : Int) := by rw [Int.tdiv_eq_ediv_of_nonneg (by omega)]; omega
    have r1 : ab2s (.slice (some (0, 0)) 1 (.ex 1)) ((⟨0, 0, .leaf⟩ : AH).push (.cells [.int .u8 (48 + (d : Int))])) = some (.str (strA [48 + (d : Int)]), _) := ab2s_row (l := [48 + (d : Int)]) (by simp) rfl (by omega)
    have hq : (d : Int) ≤ 9 := by omega
    have h0 : ¬ (n : Int) < 0 := by omega
    refine fn_of' pl get20 (oo (by decide)) rfl rfl ?_
    by_cases h : n < 10
    · rw [dg_small h, show (n : Int) = (d : Int) by omega] at *
      have h' : ¬ (10 : Int) ≤ d := by omega
      simp (disch := omega) [Und, e1, aconv_u8, r1, h', h0, -Bool.exists_bool]
    · have hi := ih (n / 10) (by omega) (by omega)
      have h' : (10 : Int) ≤ n := by omega
      rw [dg_big h, hd, ← strA_app]
      have l1 := dg_len 18 (n / 10) (by omega)
      have b1 := bys_strA (dg_digs (n / 10)).byt
      have b2 : bys (strA [48 + (d : Int)]) = [48 + (d : Int)] := bys_strA fun x hx => by
        obtain rfl := List.mem_singleton.1 hx
        omega
      have had := abin_sadd (strA (dg (n / 10))) (strA [48 + (d : Int)]) (by rw [b1, b2]; simp; omega)
      generalize hm : ((n / 10 : Nat) : Int) = m at *
      simp (disch := omega) [Und, e1, e2, aconv_u8, r1, h', h0, hi, had, -Bool.exists_bool]
end Go.Oct.Log
