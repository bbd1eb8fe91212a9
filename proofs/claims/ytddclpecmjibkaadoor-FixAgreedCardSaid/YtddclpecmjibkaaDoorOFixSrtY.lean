/- Sorting spans by their lower ends: the pivot, the patterns. -/
import Derived.Test.YtddclpecmjibkaaDoorOFixSrtX
set_option maxRecDepth 100000
set_option maxHeartbeats 8000000
set_option linter.unusedVariables false
set_option linter.unusedSimpArgs false
namespace Go.Oct.Fix
open Go.Oct
theorem rev_call {σ : AH} {o n a b : Nat} {xs : List Span} (hl : σ.lim ≤ o) (hg : σ.get o = some (.cells (rowOf eSpan xs))) (hn : xs.length = n) (hn2 : n ≤ 1000) (hab : a < b) (hb : b ≤ n) {c : ACap} {K : AV → AH → Prop}
    (hK : ∀ ys σ', Lay o σ σ' ys → PI a b xs ys → K (.tuple []) σ') :
    Call prog O (.fn 112) [.slice (some (o, 0)) n c, .int .i64 a, .int .i64 b, cmpF] σ K := by
  refine @call_of' _ _ pl _ _ _ _ _ _ _ ⟨K⟩ get112 ((oo (by decide)).2 _) rfl ?_
  have hj0 : (b : Int) - 1 = ((b - 1 : Nat) : Int) := by omega
  simp (disch := omega) [hj0, -Bool.exists_bool]
  refine lp_loop pl (fun k fr υ => ∃ (i j : Nat) (zs : List Span), j + 1 = k ∧ a ≤ i ∧ j < b ∧ fr = ⟨[(0, .slice (some (o, 0)) n c), (8, .int .i64 i), (9, .int .i64 j)], []⟩ ∧ Lay o σ υ zs ∧ PI a b xs zs)
    ⟨b, a, b - 1, xs, by omega, Nat.le_refl _, by omega, rfl, .refl hg, .refl _ _ _⟩ ?_
  rintro k _ υ ⟨i, j, zs, hk, h1, h2, rfl, hZ, hQ⟩
  have hzl : zs.length = n := hQ.len.trans hn
  have hlm : υ.lim ≤ o := by rw [hZ.only.lim]; exact hl
  by_cases hij : i < j
  · have hij' : (i : Int) < j := by omega
    have hrl := rowOf_length encSpan zs
    have hin : o < υ.next := AH.get_lt hZ.row
    have r0 := row_at encSpan (xs := zs) (j := i) (by omega)
    have r1 := row_at encSpan (xs := zs) (j := j) (by omega)
    have q0 : i < n := by omega
    have q1 : j < n := by omega
    have w0 : i * 2 + 2 ≤ zs.length * 2 := by omega
    have w1 : j * 2 + 2 ≤ zs.length * 2 := by omega
    simp (disch := omega) [Und, hij', hZ.row, hrl, r0, r1, q0, q1, w0, w1, hlm, hin, -Bool.exists_bool]
    rw [swpC (i := j) (j := i) (by omega) (by omega)]
    exact ⟨k - 1, by omega, i + 1, j - 1, by omega, by omega, by omega, ⟨by omega, by omega⟩, swp zs j i, hZ.set2 _ _, hQ.swp (by omega) (by omega) (by omega)⟩
  · have hij' : ¬ (i : Int) < j := by omega
    simp (disch := omega) [Und, hij', -Bool.exists_bool]
    exact hK zs υ hZ hQ
/-- A counter of swaps, beside what is sorted. -/
structure Cnt (o w : Nat) (σ σ' : AH) (xs : List Span) (v : Nat) : Prop where
  only : Only [w] σ σ'
  row : σ'.get o = some (.cells (rowOf eSpan xs))
  cnt : σ'.get w = some (.cells [.int .i64 v])
theorem order2_call {σ : AH} {o w n a b v : Nat} {xs : List Span} (hlw : σ.lim ≤ w) (how : o ≠ w) (hg : σ.get o = some (.cells (rowOf eSpan xs))) (hw : σ.get w = some (.cells [.int .i64 v])) (hv : v ≤ 1000) (hn : xs.length = n) (hn2 : n ≤ 1000) (hbd : ∀ x ∈ xs, bd x) (ha : a < n) (hb : b < n) {c : ACap} {K : AV → AH → Prop}
    (hK : ∀ (p q v' : Nat) σ', Cnt o w σ σ' xs v' → v' ≤ v + 1 → (p = a ∧ q = b ∨ p = b ∧ q = a) → K (.tuple [.int .i64 p, .int .i64 q]) σ') :
    Call prog O (.fn 123) [.slice (some (o, 0)) n c, .int .i64 a, .int .i64 b, .ptr (some (w, 0)), cmpF] σ K := by
  refine @call_of' _ _ pl _ _ _ _ _ _ _ ⟨K⟩ get123 ((oo (by decide)).2 _) rfl ?_
  have hrl := rowOf_length encSpan xs
  have r0 := row_at encSpan (xs := xs) (j := a) (by omega)
  have r1 := row_at encSpan (xs := xs) (j := b) (by omega)
  have w0 : a * 2 + 2 ≤ xs.length * 2 := by omega
  have w1 : b * 2 + 2 ≤ xs.length * 2 := by omega
  have hlw2 := AH.get_lt hw
  have hcmp := cmpS_ok (nth xs b) (nth xs a) (hbd _ (nth_mem (by omega))) (hbd _ (nth_mem (by omega)))
  by_cases c2 : (nth xs b).lo - (nth xs a).lo < 0
  · simp (disch := omega) [Und, hg, hw, hrl, r0, r1, ha, hb, w0, w1, hlw, hlw2, hcmp, c2, -Bool.exists_bool]
    exact hK b a (v + 1) _ ⟨Only.set (by simp) _, (AH.get_set_other _ _ _ _ how).trans hg, AH.get_set_same _ _ _ hlw2⟩ (Nat.le_refl _) (.inr ⟨rfl, rfl⟩)
  · simp (disch := omega) [Und, hg, hw, hrl, r0, r1, ha, hb, w0, w1, hlw, hlw2, hcmp, c2, -Bool.exists_bool]
    exact hK a b v _ ⟨Only.refl _ _, hg, hw⟩ (Nat.le_succ _) (.inl ⟨rfl, rfl⟩)
theorem median_call {σ : AH} {o w n a b d v : Nat} {xs : List Span} (hlw : σ.lim ≤ w) (how : o ≠ w) (hg : σ.get o = some (.cells (rowOf eSpan xs))) (hw : σ.get w = some (.cells [.int .i64 v])) (hv : v ≤ 900) (hn : xs.length = n) (hn2 : n ≤ 1000) (hbd : ∀ x ∈ xs, bd x) (ha : a < n) (hb : b < n) (hd : d < n) {c : ACap} {K : AV → AH → Prop}
    (hK : ∀ (p v' : Nat) σ', Cnt o w σ σ' xs v' → v' ≤ v + 3 → (p = a ∨ p = b ∨ p = d) → K (.int .i64 p) σ') :
    Call prog O (.fn 122) [.slice (some (o, 0)) n c, .int .i64 a, .int .i64 b, .int .i64 d, .ptr (some (w, 0)), cmpF] σ K := by
  refine @call_of' _ _ pl _ _ _ _ _ _ _ ⟨K⟩ get122 ((oo (by decide)).2 _) rfl ?_
  simp (disch := omega) [-Bool.exists_bool]
  refine order2_call hlw how hg hw (by omega) hn hn2 hbd ha hb fun p1 q1 v1 σ1 h1 h2 h3 => ?_
  simp (disch := omega) [Und, -Bool.exists_bool]
  refine order2_call (by rw [h1.only.lim]; exact hlw) how h1.row h1.cnt (by omega) hn hn2 hbd (by omega) hd fun p2 q2 v2 σ2 g1 g2 g3 => ?_
  simp (disch := omega) [Und, -Bool.exists_bool]
  refine order2_call (by rw [g1.only.lim, h1.only.lim]; exact hlw) how g1.row g1.cnt (by omega) hn hn2 hbd (by omega) (by omega) fun p3 q3 v3 σ3 k1 k2 k3 => ?_
  simp (disch := omega) [Und, -Bool.exists_bool]
  exact hK q3 v3 σ3 ⟨(h1.only.trans g1.only).trans k1.only, k1.row, k1.cnt⟩ (by omega) (by omega)
theorem pivot_call {σ : AH} {o n a b : Nat} {xs : List Span} (hl : σ.lim ≤ o) (hg : σ.get o = some (.cells (rowOf eSpan xs))) (hn : xs.length = n) (hn2 : n < 50) (hbd : ∀ x ∈ xs, bd x) (hab : a + 12 < b) (hb : b ≤ n) {c : ACap} {K : AV → AH → Prop}
    (hK : ∀ (p h : Nat) σ', Lay o σ σ' xs → a ≤ p → p < b → h ≤ 2 → K (.tuple [.int .i64 p, .int .i64 h]) σ') :
    Call prog O (.fn 111) [.slice (some (o, 0)) n c, .int .i64 a, .int .i64 b, cmpF] σ K := by
  refine @call_of' _ _ pl _ _ _ _ _ _ _ ⟨K⟩ get111 ((oo (by decide)).2 _) rfl ?_
  obtain ⟨l, hlb⟩ : ∃ l : Nat, b = a + l := ⟨b - a, by omega⟩
  have e0 : (b : Int) - a = (l : Int) := by omega
  have e1 : (l : Int).tdiv 4 = ((l / 4 : Nat) : Int) := by rw [Int.tdiv_eq_ediv_of_nonneg (by omega)]; omega
  have e2 : ¬ 50 ≤ (l : Int) := by omega
  have e3 : 8 ≤ (l : Int) := by omega
  have lo := AH.get_lt hg
  have hlx : σ.lim ≤ σ.next := by omega
  simp (disch := omega) [e0, e1, e2, e3, hlx, Und, -Bool.exists_bool]
  have f1 : (a : Int) + (l : Int) / 4 = ((a + l / 4 : Nat) : Int) := by omega
  have f2 : (a : Int) + (l : Int) / 4 * 2 = ((a + l / 4 * 2 : Nat) : Int) := by omega
  have f3 : (a : Int) + (l : Int) / 4 * 3 = ((a + l / 4 * 3 : Nat) : Int) := by omega
  rw [f1, f2, f3]
  refine median_call (v := 0) (w := σ.next) (by exact hlx) (by omega) ((AH.get_push_old _ _ _ (by omega)).trans hg) (AH.get_push_new _ _) (by omega) hn (by omega) hbd (by omega) (by omega) (by omega) fun p v' σ1 h1 h2 h3 => ?_
  have hw := h1.cnt
  have lw := AH.get_lt hw
  have hL : Lay o σ σ1 xs := ⟨⟨h1.only.lim, Nat.le_trans (Nat.le_succ _) h1.only.next, fun k hk hs => (h1.only.get k (by show k < σ.next + 1; omega) (by simp; omega)).trans (AH.get_push_old _ _ _ (by omega))⟩, h1.row⟩
  by_cases c0 : v' = 0
  · subst c0
    simp (disch := omega) [Und, hw, lw, -Bool.exists_bool]
    exact hK p 1 σ1 hL (by omega) (by omega) (by omega)
  · by_cases c1 : v' = 12
    · omega
    · have c0' : ¬ (v' : Int) = 0 := by omega
      have c1' : ¬ (v' : Int) = 12 := by omega
      simp (disch := omega) [Und, hw, lw, c0', c1', c0, c1, -Bool.exists_bool]
      exact hK p 0 σ1 hL (by omega) (by omega) (by omega)
theorem pins_ok (nl : Bool) (xs : List Span) (a b : Nat) (hn2 : xs.length < 50) (hbd : ∀ x ∈ xs, bd x) (hab : a < b) (hb : b ≤ xs.length) : ∃ d : Bool, ans prog O 113 [vl eSpan nl xs, .int .i64 a, .int .i64 b, cmpF] = some (.bool d) ∧ (d = true → srt a b xs) := by
  by_cases hs : srt a b xs
  · refine ⟨true, ?_, fun _ => hs⟩
    refine fn_of' pl get113 (oo (by decide)) rfl rfl ?_
    simp (disch := omega) [-Bool.exists_bool]
    refine lp_loop pl (fun k fr υ => k = 0 ∧ fr = ⟨[(0, vl eSpan nl xs), (1, .int .i64 a), (2, .int .i64 b), (3, cmpF), (9, .int .i64 ((a : Int) + 1)), (10, .int .i64 0)], []⟩ ∧ υ = ⟨0, 0, .leaf⟩) ⟨0, rfl, rfl, rfl⟩ ?_
    rintro k _ _ ⟨rfl, rfl, rfl⟩
    simp (disch := omega) [Und, -Bool.exists_bool]
    refine lp_loop pl (fun k fr υ => ∃ (i : Nat) (ext : Env), i + k = b ∧ a < i ∧ fr = ⟨(0, vl eSpan nl xs) :: (1, .int .i64 a) :: (2, .int .i64 b) :: (3, cmpF) :: (9, .int .i64 i) :: (10, .int .i64 0) :: ext, []⟩ ∧ υ = ⟨0, 0, .leaf⟩) ⟨b - (a + 1), a + 1, _, by omega, by omega, rfl, rfl⟩ ?_
    rintro k _ _ ⟨i, ext, hi, hai, rfl, rfl⟩
    by_cases hib : i < b
    · have hib' : (i : Int) < b := by omega
      have hcmp := cmpS_ok (nth xs i) (nth xs (i - 1)) (hbd _ (nth_mem (by omega))) (hbd _ (nth_mem (by omega)))
      have e1 : ((i : Int) - 1).toNat = i - 1 := by omega
      have q1 : i < xs.length := by omega
      have q2 : (i : Int) - 1 < xs.length := by omega
      have q3 : 1 ≤ (i : Int) := by omega
      have hge := hs (i - 1) i (by omega) (by omega) hib
      have c2 : ¬ (nth xs i).lo - (nth xs (i - 1)).lo < 0 := by unfold kk at hge; omega
      simp (disch := omega) [Und, hib', hcmp, e1, q1, q2, q3, c2, -Bool.exists_bool]
      exact ⟨k - 1, by omega, i + 1, by omega, by omega, by omega⟩
    · obtain rfl : i = b := by omega
      simp (disch := omega) [Und, -Bool.exists_bool]
  · refine ⟨false, ?_, fun h => by cases h⟩
    -- the first place where it is not sorted
    have hex : ∃ i, a < i ∧ i < b ∧ kk xs i < kk xs (i - 1) ∧ ∀ j, a < j → j < i → kk xs (j - 1) ≤ kk xs j := by
      apply Classical.byContradiction
      intro hno
      apply hs
      have key : ∀ i, i < b → a < i → kk xs (i - 1) ≤ kk xs i := by
        intro i
        induction i using Nat.strongRecOn with
        | ind i ih =>
          intro h1 h2
          apply Classical.byContradiction
          intro h3
          exact hno ⟨i, h2, h1, by omega, fun j h4 h5 => ih j h5 (by omega) h4⟩
      intro i j h1 h2 h3
      obtain ⟨d, rfl⟩ : ∃ d, j = i + d := ⟨j - i, by omega⟩
      clear h2
      induction d with
      | zero => exact Int.le_refl _
      | succ d ih =>
        have := ih (by omega)
        have h4 := key (i + (d + 1)) h3 (by omega)
        rw [show i + (d + 1) - 1 = i + d by omega] at h4
        omega
    obtain ⟨m, m1, m2, m3, m4⟩ := hex
    refine fn_of' pl get113 (oo (by decide)) rfl rfl ?_
    simp (disch := omega) [-Bool.exists_bool]
    refine lp_loop pl (fun k fr υ => k = 0 ∧ fr = ⟨[(0, vl eSpan nl xs), (1, .int .i64 a), (2, .int .i64 b), (3, cmpF), (9, .int .i64 ((a : Int) + 1)), (10, .int .i64 0)], []⟩ ∧ υ = ⟨0, 0, .leaf⟩) ⟨0, rfl, rfl, rfl⟩ ?_
    rintro k _ _ ⟨rfl, rfl, rfl⟩
    simp (disch := omega) [Und, -Bool.exists_bool]
    refine lp_loop pl (fun k fr υ => ∃ (i : Nat) (ext : Env), i + k = m ∧ a < i ∧ fr = ⟨(0, vl eSpan nl xs) :: (1, .int .i64 a) :: (2, .int .i64 b) :: (3, cmpF) :: (9, .int .i64 i) :: (10, .int .i64 0) :: ext, []⟩ ∧ υ = ⟨0, 0, .leaf⟩) ⟨m - (a + 1), a + 1, _, by omega, by omega, rfl, rfl⟩ ?_
    rintro k _ _ ⟨i, ext, hi, hai, rfl, rfl⟩
    have hib' : (i : Int) < b := by omega
    have hcmp := cmpS_ok (nth xs i) (nth xs (i - 1)) (hbd _ (nth_mem (by omega))) (hbd _ (nth_mem (by omega)))
    have e1 : ((i : Int) - 1).toNat = i - 1 := by omega
    have q1 : i < xs.length := by omega
    have q2 : (i : Int) - 1 < xs.length := by omega
    have q3 : 1 ≤ (i : Int) := by omega
    by_cases him : i < m
    · have hge := m4 i hai him
      have c2 : ¬ (nth xs i).lo - (nth xs (i - 1)).lo < 0 := by unfold kk at hge; omega
      simp (disch := omega) [Und, hib', hcmp, e1, q1, q2, q3, c2, -Bool.exists_bool]
      exact ⟨k - 1, by omega, i + 1, by omega, by omega, by omega⟩
    · obtain rfl : i = m := by omega
      have c2 : (nth xs i).lo - (nth xs (i - 1)).lo < 0 := by unfold kk at m3; omega
      have c3 : ¬ (i : Int) = b := by omega
      have c4 : (b : Int) - a < 50 := by omega
      simp (disch := omega) [Und, hib', hcmp, e1, q1, q2, q3, c2, c3, c4, -Bool.exists_bool]
end Go.Oct.Fix
