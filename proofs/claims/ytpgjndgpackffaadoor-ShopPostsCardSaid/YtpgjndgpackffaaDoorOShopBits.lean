/- Bits and members of sets, the order of lists: what the helpers answer. -/
import Derived.Test.YtpgjndgpackffaaDoorOShopSets
set_option maxRecDepth 100000
set_option maxHeartbeats 400000
set_option linter.unusedVariables false
set_option linter.unusedSimpArgs false
namespace Go.Oct.Shop
open Go.Oct
theorem abin_shr (s k : Nat) (h : k ≤ 63) : abin .shr (.int .i64 (s : Int)) (.int .i64 (k : Int)) = some (.int .i64 ((s / 2 ^ k : Nat) : Int)) := by
  have e : min ((k : Int).toNat) (IntKind.bits .i64) = k := by rw [Int.toNat_natCast]; exact Nat.min_eq_left (by show k ≤ 64; omega)
  have e2 : (s : Int).fdiv (2 ^ k) = ((s / 2 ^ k : Nat) : Int) := by
    rw [Int.fdiv_eq_ediv_of_nonneg _ (Int.le_of_lt (Int.pow_pos (by decide)))]
    simp
  simp only [abin, e]
  rw [if_neg (by omega), e2]
theorem abin_shl1 (n : Nat) (h : n ≤ 62) : abin .shl (.int .i64 1) (.int .i64 (n : Int)) = some (.int .i64 ((2 ^ n : Nat) : Int)) := by
  have e : min ((n : Int).toNat) (IntKind.bits .i64) = n := by rw [Int.toNat_natCast]; exact Nat.min_eq_left (by show n ≤ 64; omega)
  have h2 : (2 : Nat) ^ n ≤ 2 ^ 62 := Nat.pow_le_pow_right (by decide) h
  have e2 : wr .i64 (1 * 2 ^ n) = ((2 ^ n : Nat) : Int) := by
    have e3 : (1 : Int) * 2 ^ n = ((2 ^ n : Nat) : Int) := by simp
    rw [e3]
    have h3 : (((2 ^ n : Nat) : Int)) ≤ ((2 ^ 62 : Nat) : Int) := Int.ofNat_le.2 h2
    have h4 : (0 : Int) ≤ ((2 ^ n : Nat) : Int) := Int.natCast_nonneg _
    generalize ((2 ^ n : Nat) : Int) = p at h3 h4 ⊢
    unfold wr
    simp only
    rw [if_pos (by omega)]
  simp only [abin, e]
  rw [if_neg (by omega), e2]
theorem Bit_ok (s k : Nat) (h : k ≤ 62) : ans prog O 43 [.int .i64 (s : Int), .int .i64 (k : Int)] = some (.bool (decide (s / 2 ^ k % 2 = 1))) := by
  refine fn_of' pl get43 (oo (by decide)) rfl rfl ?_
  simp (disch := omega) [abin_shr, -Int.natCast_ediv, -Int.natCast_pow]
  generalize s / 2 ^ k = q
  rw [Int.tmod_eq_emod_of_nonneg (by omega)]
  omega
theorem memG_step {s n k : Nat} (h : k < n) : memG (s / 2 ^ k) (n - k) k = if s / 2 ^ k % 2 = 1 then (k : Int) :: memG (s / 2 ^ (k + 1)) (n - (k + 1)) (k + 1) else memG (s / 2 ^ (k + 1)) (n - (k + 1)) (k + 1) := by
  obtain ⟨d, hd⟩ : ∃ d, n - k = d + 1 := ⟨n - k - 1, by omega⟩
  have e : n - (k + 1) = d := by omega
  have e2 : s / 2 ^ k / 2 = s / 2 ^ (k + 1) := by rw [Nat.div_div_eq_div_mul, Nat.pow_succ]
  rw [hd, e]
  simp only [memG]
  rw [e2]
theorem Members_ok (s n : Nat) (h : n ≤ 62) : ans prog O 70 [.int .i64 (s : Int), .int .i64 (n : Int)] = some (vs (memG s n 0).isEmpty (memG s n 0)) := by
  refine fn_of' pl get70 (oo (by decide)) rfl rfl ?_
  simp (disch := omega) [-Bool.exists_bool]
  refine lp_loop pl (fun q fr σ => ∃ (k : Nat) (v : AV) (acc : List Int), k + q = n ∧ fr = ⟨[(0, .int .i64 (s : Int)), (1, .int .i64 (n : Int)), (5, v), (6, .int .i64 k)], []⟩ ∧ σ.lim = 0 ∧ Buf 0 1 (AV.int .i64) σ v acc ∧ acc ++ memG (s / 2 ^ k) (n - k) k = memG s n 0 ∧ acc.length ≤ k) ⟨n, 0, .vsl true [], [], by omega, rfl, rfl, Buf.nil, by simp, by simp⟩ ?_
  rintro q _ σ ⟨k, v, acc, hk, rfl, hl0, hb, hacc, hal⟩
  by_cases hkn : k < n
  · have hbit := Bit_ok s k (by omega)
    have hst := memG_step (s := s) hkn
    by_cases h1 : s / 2 ^ k % 2 = 1
    · rw [if_pos h1] at hst
      rw [decide_eq_true h1] at hbit
      simp (disch := omega) [Und, hl0, hkn, hbit, -Bool.exists_bool]
      refine hb.push encI (by omega) (by omega) (k : Int) (by simp only [topBytes]; omega) rfl fun v' σ' h3 h4 => ?_
      have h4l := h4.lim
      simp (disch := omega) [-Bool.exists_bool]
      exact ⟨q - 1, by omega, k + 1, by omega, v', ⟨rfl, by omega⟩, by omega, acc ++ [(k : Int)], h3, by rw [← hacc, hst]; simp, by simp; omega⟩
    · rw [if_neg h1] at hst
      rw [decide_eq_false h1] at hbit
      simp (disch := omega) [Und, hl0, hkn, hbit, -Bool.exists_bool]
      exact ⟨q - 1, by omega, k + 1, by omega, v, ⟨rfl, by omega⟩, by omega, hb, by rw [← hacc, hst], by omega⟩
  · obtain rfl : k = n := by omega
    rw [Nat.sub_self] at hacc
    simp only [memG, List.append_nil] at hacc
    subst hacc
    simp (disch := omega) [Und, hl0, -Bool.exists_bool]
    exact hb.fzI 6
theorem Before_ok (a b : Bool) (xs ys : List Int) (hx : xs.length < 2 ^ 62) (hy : ys.length < 2 ^ 62) : ans prog O 72 [vs a xs, vs b ys] = some (.bool (decide (lexB xs ys))) := by
  obtain ⟨mn, hmn⟩ : ∃ mn : Nat, mn = min xs.length ys.length := ⟨_, rfl⟩
  have hmi : min (xs.length : Int) (ys.length : Int) = mn := by omega
  refine fn_of' pl get72 (oo (by decide)) rfl rfl ?_
  simp (disch := omega) [hmi, -Bool.exists_bool]
  refine lp_loop pl (fun q fr σ => ∃ k : Nat, k + q = mn ∧ fr = ⟨[(0, vs a xs), (1, vs b ys), (5, .int .i64 k)], []⟩ ∧ σ.lim = 0 ∧ (lexB (xs.drop k) (ys.drop k) ↔ lexB xs ys)) ⟨mn, 0, by omega, rfl, rfl, by simp⟩ ?_
  rintro q _ σ ⟨k, hk, rfl, hl0, hd⟩
  by_cases hkm : k < mn
  · have hkx : k < xs.length := by omega
    have hky : k < ys.length := by omega
    rw [drop_nth hkx, drop_nth hky] at hd
    simp only [lexB] at hd
    rcases Int.lt_trichotomy (nth xs k) (nth ys k) with h1 | h1 | h1
    · have h2 : lexB xs ys := hd.1 (.inl h1)
      simp (disch := omega) [Und, hl0, hmi, hkm, hkx, hky, h1, h2, -Bool.exists_bool]
    · simp (disch := omega) [Und, hl0, hmi, hkm, hkx, hky, h1, -Bool.exists_bool]
      exact ⟨q - 1, by omega, k + 1, by omega, by omega, by rw [← hd]; simp [h1]⟩
    · have h2 : ¬ lexB xs ys := fun h => by
        rcases hd.2 h with h | h
        · omega
        · omega
      have h3 : ¬ nth xs k < nth ys k := by omega
      simp (disch := omega) [Und, hl0, hmi, hkm, hkx, hky, h1, h2, h3, -Bool.exists_bool]
  · obtain rfl : k = mn := by omega
    by_cases h4 : xs.length < ys.length
    · have e : k = xs.length := by omega
      rw [e, List.drop_length, drop_nth h4] at hd
      have h2 : lexB xs ys := hd.1 trivial
      simp (disch := omega) [Und, hl0, hmi, h4, h2, -Bool.exists_bool]
    · have e : k = ys.length := by omega
      rw [e, List.drop_length] at hd
      have h2 : ¬ lexB xs ys := fun h => lexB_nil _ (hd.2 h)
      simp (disch := omega) [Und, hl0, hmi, h4, h2, -Bool.exists_bool]
end Go.Oct.Shop
