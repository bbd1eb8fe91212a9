/- Posts: valid tasks, skills, what the helpers answer. -/
import Derived.Test.YtpgjndgpackffaaDoorOShopPosK
import Derived.Test.YtpgjndgpackffaaDoorOShopBits
set_option maxRecDepth 100000
set_option maxHeartbeats 1000000
set_option linter.unusedVariables false
set_option linter.unusedSimpArgs false
namespace Go.Oct.Shop
open Go.Oct
def okMn (x : Mn) : Prop := (0 ≤ x.sk ∧ x.sk ≤ 65535) ∧ 0 ≤ x.wg ∧ x.wg ≤ 10000
instance (x : Mn) : Decidable (okMn x) := by unfold okMn; infer_instance
def okT (t : Int) : Prop := 0 ≤ t ∧ t ≤ 15
instance (t : Int) : Decidable (okT t) := by unfold okT; infer_instance
def okTk (M : List Mn) (T : List Int) : Prop := ((M.length : Int) ≤ 8 ∧ (T.length : Int) ≤ 8) ∧ (∀ q, q < M.length → okMn (nth M q)) ∧ ∀ q, q < T.length → okT (nth T q)
instance (M : List Mn) (T : List Int) : Decidable (okTk M T) := by unfold okTk; infer_instance
@[simp] theorem withinP_ok (n l h : Int) : ans prog O 49 [.int .i64 n, .int .i64 l, .int .i64 h] = some (.bool (decide (l ≤ n ∧ n ≤ h))) := by
  refine fn_of' pl get49 (oo (by decide)) rfl rfl ?_
  simp +contextual (disch := omega) []
theorem aT1 (x : Mn) : ans prog O 89 [.agg [.int .i64 x.sk, .int .i64 x.wg]] = some (.bool (!decide (okMn x))) := by
  refine fn_of' pl get89 (oo (by decide)) rfl rfl ?_
  unfold okMn
  by_cases h1 : 0 ≤ x.sk ∧ x.sk ≤ 65535
  · simp (disch := omega) [h1]
  · simp (disch := omega) [h1]
theorem aT2 (t : Int) : ans prog O 90 [.int .i64 t] = some (.bool (!decide (okT t))) := by
  refine fn_of' pl get90 (oo (by decide)) rfl rfl ?_
  unfold okT
  by_cases h1 : 0 ≤ t
  · simp (disch := omega) [h1]
  · simp (disch := omega) [h1]
theorem aI1 (nl : Bool) (M : List Mn) (hM : M.length ≤ 8) : ∃ v, (∃ r : Int, v = .int .i64 r ∧ (0 ≤ r ↔ ¬ ∀ q, q < M.length → okMn (nth M q))) ∧ ans prog O 103 [vl eMn nl M, .func (.func 89) [] []] = some v := by
  refine fn_ex pl _ get103 (oo (by decide)) rfl rfl ?_
  simp (disch := omega) [-Bool.exists_bool]
  refine lp_loop pl (fun k fr σ => ∃ j : Nat, j + k = M.length ∧ (∀ q, q < j → okMn (nth M q)) ∧ fr = ⟨[(0, vl eMn nl M), (1, .func (.func 89) [] []), (7, .int .i64 M.length), (8, .int .i64 j)], []⟩) ⟨M.length, 0, by omega, fun q hq => by omega, rfl⟩ ?_
  rintro k _ σ ⟨j, hj, hjq, rfl⟩
  by_cases hjl : j < M.length
  · have h2 := aT1 (nth M j)
    by_cases h1 : okMn (nth M j)
    · rw [decide_eq_true h1] at h2
      simp (disch := omega) [Und, hjl, h2, -Bool.exists_bool]
      exact ⟨k - 1, by omega, j + 1, by omega, fun q hq => by
        by_cases e : q = j
        · subst e; exact h1
        · exact hjq q (by omega), by omega⟩
    · rw [decide_eq_false h1] at h2
      simp (disch := omega) [Und, hjl, h2, -Bool.exists_bool]
      exact ⟨j, hjl, h1⟩
  · obtain rfl : j = M.length := by omega
    simp (disch := omega) [Und, -Bool.exists_bool]
    exact hjq
theorem aI2 (nl : Bool) (T : List Int) (hT : T.length ≤ 8) : ∃ v, (∃ r : Int, v = .int .i64 r ∧ (0 ≤ r ↔ ¬ ∀ q, q < T.length → okT (nth T q))) ∧ ans prog O 87 [vs nl T, .func (.func 90) [] []] = some v := by
  refine fn_ex pl _ get87 (oo (by decide)) rfl rfl ?_
  simp (disch := omega) [-Bool.exists_bool]
  refine lp_loop pl (fun k fr σ => ∃ j : Nat, j + k = T.length ∧ (∀ q, q < j → okT (nth T q)) ∧ fr = ⟨[(0, vs nl T), (1, .func (.func 90) [] []), (7, .int .i64 T.length), (8, .int .i64 j)], []⟩) ⟨T.length, 0, by omega, fun q hq => by omega, rfl⟩ ?_
  rintro k _ σ ⟨j, hj, hjq, rfl⟩
  by_cases hjl : j < T.length
  · have h2 := aT2 (nth T j)
    by_cases h1 : okT (nth T j)
    · rw [decide_eq_true h1] at h2
      simp (disch := omega) [Und, hjl, h2, -Bool.exists_bool]
      exact ⟨k - 1, by omega, j + 1, by omega, fun q hq => by
        by_cases e : q = j
        · subst e; exact h1
        · exact hjq q (by omega), by omega⟩
    · rw [decide_eq_false h1] at h2
      simp (disch := omega) [Und, hjl, h2, -Bool.exists_bool]
      exact ⟨j, hjl, h1⟩
  · obtain rfl : j = T.length := by omega
    simp (disch := omega) [Und, -Bool.exists_bool]
    exact hjq
theorem areTasks_ok (nM nT : Bool) (M : List Mn) (T : List Int) (hM : M.length < 2 ^ 62) (hT : T.length < 2 ^ 62) : ans prog O 73 [vl eMn nM M, vs nT T] = some (.bool (decide (okTk M T))) := by
  by_cases h1 : (M.length : Int) ≤ 8
  · by_cases h2 : (T.length : Int) ≤ 8
    · obtain ⟨_, ⟨r1, rfl, e1⟩, a1⟩ := aI1 nM M (by omega)
      obtain ⟨_, ⟨r2, rfl, e2⟩, a2⟩ := aI2 nT T (by omega)
      have c1 : ans prog O 88 [vl eMn nM M, .func (.func 89) [] []] = some (.bool (decide (0 ≤ r1))) := by
        refine fn_of' pl get88 (oo (by decide)) rfl rfl ?_
        simp (disch := omega) [a1]
      have c2 : ans prog O 66 [vs nT T, .func (.func 90) [] []] = some (.bool (decide (0 ≤ r2))) := by
        refine fn_of' pl get66 (oo (by decide)) rfl rfl ?_
        simp (disch := omega) [a2]
      refine fn_of' pl get73 (oo (by decide)) rfl rfl ?_
      by_cases b1 : 0 ≤ r1
      · have n1 : ¬ okTk M T := fun h => e1.1 b1 h.2.1
        rw [decide_eq_true b1] at c1
        simp (disch := omega) [h1, h2, c1, n1]
      · by_cases b2 : 0 ≤ r2
        · have n1 : ¬ okTk M T := fun h => e2.1 b2 h.2.2
          rw [decide_eq_true b2] at c2
          rw [decide_eq_false b1] at c1
          simp (disch := omega) [h1, h2, c1, c2, n1]
        · have n1 : okTk M T := ⟨⟨h1, h2⟩, Decidable.byContradiction fun h => b1 (e1.2 h), Decidable.byContradiction fun h => b2 (e2.2 h)⟩
          rw [decide_eq_false b2] at c2
          rw [decide_eq_false b1] at c1
          simp (disch := omega) [h1, h2, c1, c2, n1]
    · have n1 : ¬ okTk M T := fun h => h2 h.1.2
      refine fn_of' pl get73 (oo (by decide)) rfl rfl ?_
      simp (disch := omega) [h1, h2, n1]
  · have n1 : ¬ okTk M T := fun h => h1 h.1.1
    refine fn_of' pl get73 (oo (by decide)) rfl rfl ?_
    simp (disch := omega) [h1, n1]
theorem abin_and1 (q : Nat) (h : q < 2 ^ 63) : abin .and (.int .i64 (q : Int)) (.int .i64 1) = some (.int .i64 ((q % 2 : Nat) : Int)) := by
  simp only [abin, if_true]
  have e1 : (BitVec.ofInt (IntKind.bits .i64) (q : Int)).toNat = q := by
    show (BitVec.ofInt 64 (q : Int)).toNat = q
    rw [BitVec.ofInt_natCast, BitVec.toNat_ofNat]
    exact Nat.mod_eq_of_lt (by omega)
  have e2 : (BitVec.ofInt (IntKind.bits .i64) (1 : Int)).toNat = 1 := rfl
  rw [BitVec.toNat_and, e1, e2, Nat.and_one_is_mod]
  have : q % 2 = 0 ∨ q % 2 = 1 := by omega
  rcases this with h | h <;> rw [h] <;> rfl
theorem hasS_eq (x : Mn) (t : Int) : hasS x t = decide (x.sk.toNat / 2 ^ t.toNat % 2 = 1) := by
  unfold hasS
  rw [Nat.testBit_eq_decide_div_mod_eq]
theorem has_ok (x : Mn) (t : Int) (hx : okMn x) (ht : okT t) : ans prog O 94 [.agg [.int .i64 x.sk, .int .i64 x.wg], .int .i64 t] = some (.bool (hasS x t)) := by
  obtain ⟨s, hs⟩ : ∃ s : Nat, x.sk = s := ⟨x.sk.toNat, by have := hx.1; omega⟩
  obtain ⟨k, hk⟩ : ∃ k : Nat, t = k := ⟨t.toNat, by have := ht.1; omega⟩
  have hb := hx.1
  have hb2 := ht.2
  rw [hasS_eq, hs, hk, Int.toNat_natCast, Int.toNat_natCast]
  have h1 := abin_shr s k (by omega)
  have hle : s / 2 ^ k < 2 ^ 63 := Nat.lt_of_le_of_lt (Nat.div_le_self ..) (by omega)
  have h2 := abin_and1 _ hle
  refine fn_of' pl get94 (oo (by decide)) rfl rfl ?_
  simp (disch := omega) [h1, h2, -Int.natCast_ediv, -Int.natCast_pow, -Int.natCast_emod]
  generalize s / 2 ^ k % 2 = q
  omega
theorem bitM_ok (x : Mn) (t : Int) (hx : okMn x) (ht : okT t) : ans prog O 43 [.int .i64 x.sk, .int .i64 t] = some (.bool (hasS x t)) := by
  obtain ⟨s, hs⟩ : ∃ s : Nat, x.sk = s := ⟨x.sk.toNat, by have := hx.1; omega⟩
  obtain ⟨k, hk⟩ : ∃ k : Nat, t = k := ⟨t.toNat, by have := ht.1; omega⟩
  have hb2 := ht.2
  rw [hasS_eq, hs, hk, Int.toNat_natCast, Int.toNat_natCast]
  exact Bit_ok s k (by omega)
theorem Contains_ok (nl : Bool) (xs : List Int) (x : Int) (hx : xs.length ≤ 1000) : ans prog O 95 [vs nl xs, .int .i64 x] = some (.bool (xs.contains x)) := by
  obtain ⟨_, ⟨r, rfl, hr⟩, hi⟩ : ∃ v, (∃ r : Int, v = .int .i64 r ∧ (0 ≤ r ↔ x ∈ xs)) ∧ ans prog O 104 [vs nl xs, .int .i64 x] = some v := by
    refine fn_ex pl _ get104 (oo (by decide)) rfl rfl ?_
    simp (disch := omega) [-Bool.exists_bool]
    refine lp_loop pl (fun k fr σ => ∃ j : Nat, j + k = xs.length ∧ (∀ q, q < j → nth xs q ≠ x) ∧ fr = ⟨[(0, vs nl xs), (1, .int .i64 x), (7, .int .i64 xs.length), (8, .int .i64 j)], []⟩) ⟨xs.length, 0, by omega, fun q hq => by omega, rfl⟩ ?_
    rintro k _ σ ⟨j, hj, hjq, rfl⟩
    by_cases hjl : j < xs.length
    · by_cases e : x = nth xs j
      · simp (disch := omega) [Und, hjl, e, -Bool.exists_bool]
        exact nth_mem hjl
      · simp (disch := omega) [Und, hjl, e, -Bool.exists_bool]
        exact ⟨k - 1, by omega, j + 1, by omega, fun q hq => by
          by_cases e2 : q = j
          · subst e2; exact fun h => e h.symm
          · exact hjq q (by omega), by omega⟩
    · obtain rfl : j = xs.length := by omega
      have hn : x ∉ xs := fun h => by
        obtain ⟨q, h1, h2⟩ := mem_nth.1 h
        exact hjq q h1 h2
      simp (disch := omega) [Und, hn, -Bool.exists_bool]
  refine fn_of' pl get95 (oo (by decide)) rfl rfl ?_
  simp (disch := omega) [hi, hr]
theorem sum_ok (nl : Bool) (xs : List Int) (hx : xs.length ≤ 1000) (hb : ∀ j, j ≤ xs.length → 0 ≤ (xs.take j).sum ∧ (xs.take j).sum ≤ 1000000) : ans prog O 92 [vs nl xs] = some (.int .i64 xs.sum) := by
  refine fn_of' pl get92 (oo (by decide)) rfl rfl ?_
  simp (disch := omega) [-Bool.exists_bool]
  refine lp_loop pl (fun k fr σ => ∃ j : Nat, j + k = xs.length ∧ fr = ⟨[(2, .int .i64 (xs.take j).sum), (5, vs nl xs), (6, .int .i64 xs.length), (7, .int .i64 j)], []⟩ ∧ σ.lim = 0) ⟨xs.length, 0, by omega, by simp, rfl⟩ ?_
  rintro k _ σ ⟨j, hj, rfl, hl0⟩
  by_cases hjl : j < xs.length
  · have h1 := hb j (by omega)
    have h2 := hb (j + 1) (by omega)
    have h3 : (xs.take (j + 1)).sum = (xs.take j).sum + nth xs j := by rw [take_succ_nth hjl]; simp
    simp (disch := omega) [Und, hl0, hjl, -Bool.exists_bool]
    exact ⟨k - 1, by omega, j + 1, by omega, by omega, by omega⟩
  · obtain rfl : j = xs.length := by omega
    simp (disch := omega) [Und, hl0, -Bool.exists_bool]
end Go.Oct.Shop
