/- Bits and members of sets, the order of lists: what the helpers answer. -/
import Derived.Test.YtpgjndgpackffaaDoorOShopSets
set_option maxRecDepth 100000
set_option maxHeartbeats 400000
set_option linter.unusedVariables false
set_option linter.unusedSimpArgs false
namespace Go.Oct.Shop
open Go.Oct
theorem abin_shr (s k : Nat) (h : k ≤ 63) : abin .shr (.int .i64 (s : Int)) (.int .i64 (k : Int)) = some (.int .i64 ((s / 2 ^ k : Nat) : Int)) := by
  have e : min ((k : Int).toNat) (IntKind.bits .i64) = k := by rw [Int.toNat_natCast]; exact Nat.min_eq_left (by show k ≤ 64; omega)
  have e2 : (s : Int).fdiv (2 ^ k) = ((s / 2 ^ k : Nat) : Int) := by
    rw [Int.fdiv_eq_ediv_of_nonneg _ (Int.le_of_lt (Int.pow_pos (by decide)))]
    simp
  simp only [abin, e]
  rw [if_neg (by omega), e2]
theorem abin_shl1 (n : Nat) (h : n ≤ 62) : abin .shl (.int .i64 1) (.int .i64 (n : Int)) = some (.int .i64 ((2 ^ n : Nat) : Int)) := by
  have e : min ((n : Int).toNat) (IntKind.bits .i64) = n := by rw [Int.toNat_natCast]; exact Nat.min_eq_left (by show n ≤ 64; omega)
  have h2 : (2 : Nat) ^ n ≤ 2 ^ 62 := Nat.pow_le_pow_right (by decide) h
  have e2 : wr .i64 (1 * 2 ^ n) = ((2 ^ n : Nat) : Int) := by
    have e3 : (1 : Int) * 2 ^ n = ((2 ^ n : Nat) : Int) := by simp
    rw [e3]
    have h3 : (((2 ^ n : Nat) : Int)) ≤ ((2 ^ 62 : Nat) : Int) := Int.ofNat_le.2 h2
    have h4 : (0 : Int) ≤ ((2 ^ n : Nat) : Int) := Int.natCast_nonneg _
    generalize ((2 ^ n : Nat) : Int) = p at h3 h4 ⊢
    unfold wr
    simp only
    rw [if_pos (by omega)]
  simp only [abin, e]
  rw [if_neg (by omega), e2]
theorem Bit_ok (s k : Nat) (h : k ≤ 62) : ans prog O 43 [.int .i64 (s : Int), .int .i64 (k : Int)] = some (.bool (decide (s / 2 ^ k % 2 = 1))) := by
  refine fn_of' pl get43 (oo (by decide)) rfl rfl ?_
  simp (disch := omega) [abin_shr, -Int.natCast_ediv, -Int.natCast_pow]
  generalize s / 2 ^ k = q
  rw [Int.tmod_eq_emod_of_nonneg (by omega)]
  omega
theorem memG_step {s n k : Nat} (h : k < n) : memG (s / 2 ^ k) (n - k) k = if s / 2 ^ k % 2 = 1 then (k : Int) :: memG (s / 2 ^ (k + 1)) (n - (k + 1)) (k + 1) else memG (s / 2 ^ (k + 1)) (n - (k + 1)) (k + 1) := by
  obtain ⟨d, hd⟩ : ∃ d, n - k = d + 1 := ⟨n - k - 1, by omega⟩
  have e : n - (k + 1) = d := by omega
  have e2 : s / 2 ^ k / 2 = s / 2 ^ (k + 1) := by rw [Nat.div_div_eq_div_mul, Nat.pow_succ]
  rw [hd, e]
  simp only [memG]
  rw [e2]
end Go.Oct.Shop
