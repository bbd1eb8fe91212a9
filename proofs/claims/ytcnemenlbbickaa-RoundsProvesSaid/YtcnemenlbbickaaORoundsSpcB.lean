/- Sets as numbers: what the helpers and the specification's cuts answer. -/
import Derived.Test.YtcnemenlbbickaaORoundsSpcP
set_option maxRecDepth 100000
set_option maxHeartbeats 8000000
set_option linter.unusedVariables false
set_option linter.unusedSimpArgs false
namespace Go.Oct.Rounds
open Go.Oct
theorem abin_shr (s k : Nat) (h : k ≤ 63) : abin .shr (.int .i64 (s : Int)) (.int .i64 (k : Int)) = some (.int .i64 ((s / 2 ^ k : Nat) : Int)) := by
  have e : min ((k : Int).toNat) (IntKind.bits .i64) = k := by rw [Int.toNat_natCast]; exact Nat.min_eq_left (by show k ≤ 64; omega)
  have e2 : (s : Int).fdiv (2 ^ k) = ((s / 2 ^ k : Nat) : Int) := by
    rw [Int.fdiv_eq_ediv_of_nonneg _ (Int.le_of_lt (Int.pow_pos (by decide)))]
    simp
  simp only [abin, e]
  rw [if_neg (by omega), e2]
theorem abin_shl1 (n : Nat) (h : n ≤ 62) : abin .shl (.int .i64 1) (.int .i64 (n : Int)) = some (.int .i64 ((2 ^ n : Nat) : Int)) := by
  have e : min ((n : Int).toNat) (IntKind.bits .i64) = n := by rw [Int.toNat_natCast]; exact Nat.min_eq_left (by show n ≤ 64; omega)
  have h2 : (2 : Nat) ^ n ≤ 2 ^ 62 := Nat.pow_le_pow_right (by decide) h
  have e2 : wr .i64 (1 * 2 ^ n) = ((2 ^ n : Nat) : Int) := by
    have e3 : (1 : Int) * 2 ^ n = ((2 ^ n : Nat) : Int) := by simp
    rw [e3]
    have h3 : (((2 ^ n : Nat) : Int)) ≤ ((2 ^ 62 : Nat) : Int) := Int.ofNat_le.2 h2
    have h4 : (0 : Int) ≤ ((2 ^ n : Nat) : Int) := Int.natCast_nonneg _
    generalize ((2 ^ n : Nat) : Int) = p at h3 h4 ⊢
    unfold wr
    simp only
    rw [if_pos (by omega)]
  simp only [abin, e]
  rw [if_neg (by omega), e2]
theorem Bit_ok (s k : Nat) (h : k ≤ 62) : ans prog O 70 [.int .i64 (s : Int), .int .i64 (k : Int)] = some (.bool (decide (s / 2 ^ k % 2 = 1))) := by
  refine fn_of' pl get70 (oo (by decide)) rfl rfl ?_
  simp (disch := omega) [abin_shr, -Int.natCast_ediv, -Int.natCast_pow]
  generalize s / 2 ^ k = q
  rw [Int.tmod_eq_emod_of_nonneg (by omega)]
  omega
theorem bit_add_lo (m : Nat) {s k : Nat} (hk : k < s) : (m + 2 ^ s) / 2 ^ k % 2 = m / 2 ^ k % 2 := by
  have e2 : 2 ^ s = 2 ^ k * (2 * 2 ^ (s - k - 1)) := by
    rw [← Nat.pow_succ', ← Nat.pow_add]; congr 1; omega
  rw [e2, Nat.add_mul_div_left _ _ (Nat.pow_pos (by decide))]; omega
theorem bit_add_at {m s : Nat} (h : m < 2 ^ s) : (m + 2 ^ s) / 2 ^ s % 2 = 1 := by
  rw [Nat.add_div_right _ (Nat.pow_pos (by decide)), Nat.div_eq_of_lt h]
theorem bit_hi {m k : Nat} (h : m < 2 ^ k) : m / 2 ^ k % 2 = 0 := by rw [Nat.div_eq_of_lt h]
theorem pM_succ (m n : Nat) : pM m (n + 1) = pM m n ++ if m / 2 ^ n % 2 = 1 then [(n : Int)] else [] := by
  unfold pM
  rw [sel_succ]
  simp
theorem pM_ext {m n : Nat} (h : m < 2 ^ n) : ∀ d, pM m (n + d) = pM m n
  | 0 => rfl
  | d + 1 => by
    have e : m < 2 ^ (n + d) := Nat.lt_of_lt_of_le h (Nat.pow_le_pow_right (by decide) (by omega))
    rw [← Nat.add_assoc, pM_succ, if_neg (by rw [bit_hi e]; decide), List.append_nil, pM_ext h d]
theorem pM_len (m n : Nat) : (pM m n).length ≤ n := sel_len _ _
theorem pM_has (m : Nat) {n k : Nat} (hk : k < n) : (pM m n).contains (k : Int) = decide (m / 2 ^ k % 2 = 1) := by
  rw [Bool.eq_iff_iff, List.contains_iff_mem]
  unfold pM
  rw [sel_mem]
  constructor
  · rintro ⟨j, h1, h2, h3⟩
    have : k = j := by omega
    rw [this]; exact h2
  · intro h
    exact ⟨k, hk, h, rfl⟩
theorem pM_of {m n : Nat} {l : List Int} (hr : rise l n) (hb : ∀ k, k < n → (decide (m / 2 ^ k % 2 = 1) = l.contains (k : Int))) : pM m n = l := by
  conv => rhs; rw [rise_sel n l hr]
  exact sel_congr hb
theorem Bits_ok {s n : Nat} (h : s < 2 ^ n) (hn : n ≤ 62) : ans prog O 75 [.int .i64 (s : Int)] = some (.int .i64 ((pM s n).length : Int)) := by
  have he : pM s n = pM s 62 := by
    obtain ⟨d, hd⟩ : ∃ d, 62 = n + d := ⟨62 - n, by omega⟩
    rw [hd, pM_ext h d]
  rw [he]
  refine fn_of' pl get75 (oo (by decide)) rfl rfl ?_
  simp (disch := omega) [-Bool.exists_bool]
  refine lp_loop pl (fun q fr σ => ∃ k : Nat, k + q = 62 ∧ fr = ⟨[(0, .int .i64 (s : Int)), (3, .int .i64 ((pM s k).length : Int)), (4, .int .i64 k)], []⟩ ∧ σ.lim = 0) ⟨62, 0, by omega, rfl, rfl⟩ ?_
  rintro q _ σ ⟨k, hk, rfl, s0⟩
  by_cases hk2 : k < 62
  · have hk2' : (k : Int) < 62 := by omega
    have hb := Bit_ok s k (by omega)
    have hs := pM_succ s k
    have hl := pM_len s k
    by_cases h1 : s / 2 ^ k % 2 = 1
    · rw [decide_eq_true h1] at hb
      rw [if_pos h1] at hs
      have hs2 : (pM s (k + 1)).length = (pM s k).length + 1 := by rw [hs]; simp
      simp (disch := omega) [Und, s0, hk2', hb, -Bool.exists_bool]
      exact ⟨q - 1, by omega, k + 1, by omega, by omega, by omega⟩
    · rw [decide_eq_false h1] at hb
      rw [if_neg h1, List.append_nil] at hs
      simp (disch := omega) [Und, s0, hk2', hb, -Bool.exists_bool]
      exact ⟨q - 1, by omega, k + 1, by omega, by rw [hs]; exact ⟨rfl, by omega⟩⟩
  · obtain rfl : k = 62 := by omega
    simp (disch := omega) [Und, s0, -Bool.exists_bool]
theorem abin_andNot {s a : Nat} (hs : s < 2 ^ 62) (ha : a < 2 ^ 62) : ∃ d : Int, abin .andNot (.int .i64 (s : Int)) (.int .i64 (a : Int)) = some (.int .i64 d) ∧ (d = 0 ↔ ∀ k, s / 2 ^ k % 2 = 1 → a / 2 ^ k % 2 = 1) := by
  refine ⟨_, rfl, ?_⟩
  have e1 : BitVec.ofInt 64 (s : Int) = BitVec.ofNat 64 s := BitVec.ofInt_natCast ..
  have e2 : BitVec.ofInt 64 (a : Int) = BitVec.ofNat 64 a := BitVec.ofInt_natCast ..
  show IntKind.wrap .i64 (((BitVec.ofInt 64 (s : Int) &&& ~~~ BitVec.ofInt 64 (a : Int)).toNat : Nat) : Int) = 0 ↔ _
  rw [e1, e2]
  have hlt : (BitVec.ofNat 64 s &&& ~~~ BitVec.ofNat 64 a).toNat < 2 ^ 62 := by
    rw [BitVec.toNat_and]
    refine Nat.lt_of_le_of_lt Nat.and_le_left ?_
    rw [BitVec.toNat_ofNat]
    exact Nat.lt_of_le_of_lt (Nat.mod_le _ _) hs
  have hz : IntKind.wrap .i64 (((BitVec.ofNat 64 s &&& ~~~ BitVec.ofNat 64 a).toNat : Nat) : Int) = 0 ↔ BitVec.ofNat 64 s &&& ~~~ BitVec.ofNat 64 a = 0#64 := by
    rw [← BitVec.toNat_inj]
    generalize (BitVec.ofNat 64 s &&& ~~~ BitVec.ofNat 64 a).toNat = q at hlt ⊢
    have : IntKind.wrap .i64 (q : Int) = q := by
      have e : (q : Int) % (2 ^ 64 : Int) = q := Int.emod_eq_of_lt (by omega) (by omega)
      show (if (true && decide ((q : Int) % (2 ^ 64 : Int) ≥ (2 ^ 63 : Int))) = true then (q : Int) % (2 ^ 64 : Int) - (2 ^ 64 : Int) else (q : Int) % (2 ^ 64 : Int)) = q
      rw [e, if_neg (by simp; omega)]
    rw [this]
    simp
  rw [hz]
  have bt : ∀ m k : Nat, (m / 2 ^ k % 2 = 1) ↔ m.testBit k = true := fun m k => by
    rw [Nat.testBit_eq_decide_div_mod_eq]; simp
  simp only [bt]
  constructor
  · intro h k hk
    have h1 := congrArg (fun x => x.getLsbD k) h
    have hk64 : k < 64 := by
      by_cases e : k < 64
      · exact e
      · rw [Nat.testBit_lt_two_pow (Nat.lt_of_lt_of_le hs (Nat.pow_le_pow_right (by decide) (by omega)))] at hk
        cases hk
    simp only [BitVec.getLsbD_and, BitVec.getLsbD_not, BitVec.getLsbD_ofNat, BitVec.getLsbD_zero, hk64, hk, decide_true, Bool.true_and, Bool.not_eq_eq_eq_not, Bool.not_false] at h1
    simpa using h1
  · intro h
    apply BitVec.eq_of_getLsbD_eq
    intro k hk
    have h0 := h k
    simp only [BitVec.getLsbD_and, BitVec.getLsbD_not, BitVec.getLsbD_ofNat, BitVec.getLsbD_zero, hk, decide_true, Bool.true_and]
    revert h0
    cases s.testBit k <;> cases a.testBit k <;> simp
section
variable {N : Nat} {C : List Bool} {A : List An}
theorem closed_ok (nC : Bool) (nA : Bool) (hok : okNet N C A) : ∃ a : Nat, a < 2 ^ C.length ∧ (∀ k, k < C.length → decide (a / 2 ^ k % 2 = 1) = nth C k) ∧ ans prog O 77 [eNet N nC C nA A] = some (.int .i64 (a : Int)) := by
  have hC := hok.2.1
  obtain ⟨v, ⟨a, rfl, h1, h2⟩, h3⟩ : ∃ v, (∃ a : Nat, v = .int .i64 (a : Int) ∧ a < 2 ^ C.length ∧ (∀ k, k < C.length → decide (a / 2 ^ k % 2 = 1) = nth C k)) ∧ ans prog O 77 [eNet N nC C nA A] = some v := by
    refine fn_ex pl _ get77 (oo (by decide)) rfl rfl ?_
    simp (disch := omega) [eNet, -Bool.exists_bool]
    refine lp_loop pl (fun q fr σ => ∃ i a : Nat, i + q = C.length ∧ fr = ⟨[(1, .ptr (some (0, 0))), (3, .int .i64 (a : Int)), (4, .int .i64 i)], []⟩ ∧ σ.lim = 0 ∧ σ.get 0 = some (.cells [.int .i64 N, vl AV.bool nC C, vl eAn nA A]) ∧ a < 2 ^ i ∧ (∀ k, k < i → decide (a / 2 ^ k % 2 = 1) = nth C k)) ⟨C.length, 0, 0, by omega, rfl, rfl, by simp, by decide, fun k hk => by omega⟩ ?_
    rintro q _ σ ⟨i, a, hi, rfl, s0, sg, ha, hb⟩
    have l0 := AH.get_lt sg
    by_cases hiC : i < C.length
    · have hiC' : (i : Int) < C.length := by omega
      have hsh := abin_shl1 i (by omega)
      have hp : (2 : Nat) ^ (i + 1) = 2 * 2 ^ i := by rw [Nat.pow_succ]; omega
      have hp8 : (2 : Nat) ^ i ≤ 2 ^ 8 := Nat.pow_le_pow_right (by decide) (by omega)
      have b1 := fun k (hk : k < i) => bit_add_lo a hk
      have b2 := bit_add_at ha
      have b3 := bit_hi ha
      cases hc : nth C i
      · simp (disch := omega) [Und, s0, sg, l0, hiC', hc, -Bool.exists_bool]
        refine ⟨q - 1, by omega, i + 1, by omega, a, ⟨rfl, by omega⟩, by omega, fun k hk => ?_⟩
        by_cases e : k = i
        · subst e; rw [b3, hc]; rfl
        · exact hb k (by omega)
      · obtain ⟨p, hpp⟩ : ∃ p : Nat, p = 2 ^ i := ⟨_, rfl⟩
        rw [← hpp] at hsh hp hp8 b2 ha
        simp only [← hpp] at b1
        simp (disch := omega) [Und, s0, sg, l0, hiC', hc, hsh, -Bool.exists_bool]
        refine ⟨q - 1, by omega, i + 1, by omega, a + p, ⟨by omega, by omega⟩, by omega, fun k hk => ?_⟩
        by_cases e : k = i
        · subst e
          have b2' : (a + p) / 2 ^ k % 2 = 1 := by rw [hpp] at b2 ⊢; exact b2
          rw [b2', hc]; rfl
        · rw [b1 k (by omega)]; exact hb k (by omega)
    · obtain rfl : i = C.length := by omega
      simp (disch := omega) [Und, s0, sg, l0, -Bool.exists_bool]
      exact ⟨a, rfl, ha, hb⟩
  exact ⟨a, h1, h2, h3⟩
theorem side_ok {tr st : Nat} {a : An} (h1 : okAn N C.length a) (hN : N ≤ 8) (hC : C.length ≤ 8) : ans prog O 76 [.agg [.int .i64 a.t, .int .i64 a.s, .int .i64 a.lo, .int .i64 a.hi], .int .i64 (tr : Int), .int .i64 (st : Int)] = some (.int .i64 (sideP (pM tr N) (pM st C.length) a)) := by
  refine fn_of' pl get76 (oo (by decide)) rfl rfl ?_
  obtain ⟨t, ht⟩ : ∃ t : Nat, a.t = t := ⟨a.t.toNat, by have := h1.1; omega⟩
  obtain ⟨s, hs⟩ : ∃ s : Nat, a.s = s := ⟨a.s.toNat, by have := h1.2.1; omega⟩
  have k1 := h1.1
  have k2 := h1.2.1
  have b1 := Bit_ok tr t (by omega)
  have b2 := Bit_ok st s (by omega)
  have c1 := pM_has tr (n := N) (k := t) (by omega)
  have c2 := pM_has st (n := C.length) (k := s) (by omega)
  rw [← c1] at b1
  rw [← c2] at b2
  unfold sideP
  rw [ht, hs]
  cases e1 : (pM tr N).contains (t : Int) <;> cases e2 : (pM st C.length).contains (s : Int)
  all_goals
    rw [e1] at b1
    rw [e2] at b2
    simp (disch := omega) [Und, eqf1, eqf2, b1, b2, -Bool.exists_bool]
end
end Go.Oct.Rounds
