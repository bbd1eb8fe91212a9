/- An angle that is repeated: what Repeat answers where one circle alone agrees. -/
import Derived.Test.YtddkghgfbhhcdaaOTriRepP
import Derived.Test.YtddkghgfbhhcdaaOTriCloM
import Derived.Test.YtddkghgfbhhcdaaOTriSet
import Derived.Test.YtddkghgfbhhcdaaOTriSex
set_option maxRecDepth 100000
set_option maxHeartbeats 4000000
set_option linter.unusedVariables false
set_option linter.unusedSimpArgs false
namespace Go.Oct.Tri
open Go.Oct
@[simp] theorem isDir_ok (n : Int) : ans prog O 37 [.int .i64 n] = some (.bool (decide (0 ≤ n ∧ n ≤ 1295999))) := by
  refine fn_of' pl get37 (oo (by decide)) rfl rfl ?_
  simp +contextual (disch := omega) []
theorem fl_bd {a b M : Int} (hb : 1 ≤ b) (hM : 0 ≤ M) (h : -M ≤ a ∧ a ≤ M) : -M ≤ a / b ∧ a / b ≤ M := by
  constructor
  · refine (Int.le_ediv_iff_mul_le (by omega)).2 ?_
    have := Int.mul_le_mul_of_nonneg_left hb hM
    rw [Int.neg_mul]; omega
  · have : a / b < M + 1 := (Int.ediv_lt_iff_lt_mul (by omega)).2 (by
      have := Int.mul_le_mul_of_nonneg_left hb (show 0 ≤ M + 1 by omega)
      omega)
    omega
theorem dn_ok (a b : Int) (hb : 0 < b ∧ b ≤ 1000) (ha : -1000000000000 ≤ a ∧ a ≤ 1000000000000) : ans prog O 41 [.int .i64 a, .int .i64 b] = some (.int .i64 (a / b)) := by
  have e1 := Int.mul_tdiv_add_tmod a b
  have e2 := Int.tmod_lt_of_pos a hb.1
  have e3 := Int.lt_tmod_of_pos a hb.1
  have f1 := Int.mul_ediv_add_emod a b
  have f2 := Int.emod_lt_of_pos a hb.1
  have f3 := Int.emod_nonneg a (show b ≠ 0 by omega)
  have e4 : (a.tmod b + b).tmod b = a % b := by
    rw [Int.tmod_eq_emod_of_nonneg (by omega), Int.add_emod_right]
    have h4 := Int.mul_add_emod_self_left b (a.tdiv b) (a.tmod b)
    rw [e1] at h4
    exact h4.symm
  have e5 : (a - a % b).tdiv b = a / b := by
    rw [show a - a % b = b * (a / b) by omega]
    exact Int.mul_tdiv_cancel_left _ (by omega)
  have b1 := fl_bd (a := a) (b := b) (M := 1000000000000) (by omega) (by decide) ha
  refine fn_of' pl get41 (oo (by decide)) rfl rfl ?_
  simp (disch := omega) [Und, e4, e5, -Bool.exists_bool]
  try omega
theorem up_ok (a b : Int) (hb : 0 < b ∧ b ≤ 1000) (ha : -1000000000000 ≤ a ∧ a ≤ 1000000000000) : ans prog O 40 [.int .i64 a, .int .i64 b] = some (.int .i64 (-(-a / b))) := by
  have hd := dn_ok (-a) b hb (by omega)
  have b1 := fl_bd (a := -a) (b := b) (M := 1000000000000) (by omega) (by decide) (by omega)
  refine fn_of' pl get40 (oo (by decide)) rfl rfl ?_
  simp (disch := omega) [Und, hd, -Bool.exists_bool]
theorem under_self' {σ : AH} (h : σ.lim = 0) : σ.under 0 = σ := by
  cases σ; subst h; rfl
theorem Repeat_one {F L t w r1 r2 : Int} (hF : 0 ≤ F ∧ F ≤ 1295999) (hL : 0 ≤ L ∧ L ≤ 1295999) (ht : 1 ≤ t ∧ t ≤ 100) (hr : 0 ≤ r1 ∧ r1 ≤ r2 ∧ r2 ≤ 1295999) (hw : 0 ≤ w ∧ w ≤ 10000) {c0 : Nat} (hc0 : (c0 : Int) < t + 2)
    (h0 : max r1 (upT F L w t c0) ≤ min r2 (dnT F L w t c0)) (hne : ∀ c : Int, c ≠ c0 → min r2 (dnT F L w t c) < max r1 (upT F L w t c)) :
    ans prog O 12 [.agg [.int .i64 F, .int .i64 L, .int .i64 t, .int .i64 r1, .int .i64 r2, .int .i64 w]] = some (.tuple [vl eSpan false [⟨max r1 (upT F L w t c0), min r2 (dnT F L w t c0)⟩], .int .i64 0]) := by
  refine fn_of' pl get12 (oo (by decide)) rfl rfl ?_
  simp (disch := omega) [Und, eq_true hF, eq_true hL, eq_true ht, eq_true hr, eq_true hw, -Bool.exists_bool]
  refine lp_loop pl (fun k fr υ => ∃ (j : Nat) (v : AV), (j : Int) + k = t + 2 ∧ fr = ⟨[(1, .ptr (some (0, 0))), (4, v), (40, .int .i64 (t + 2)), (41, .int .i64 j)], []⟩ ∧ υ.lim = 0 ∧ 1 ≤ υ.next ∧ υ.get 0 = some (.cells [.int .i64 F, .int .i64 L, .int .i64 t, .int .i64 r1, .int .i64 r2, .int .i64 w]) ∧
      Buf 1 2 eSpan υ v (if c0 < j then [⟨max r1 (upT F L w t c0), min r2 (dnT F L w t c0)⟩] else []))
    ⟨(t + 2).toNat, 0, .vsl true [], by omega, rfl, by simp, by simp, by simp, by rw [if_neg (by omega)]; exact Buf.nil⟩ ?_
  rintro k _ υ ⟨j, v, hj, rfl, u0, u1, g0, hb⟩
  have n0 : 0 < υ.next := by omega
  have u2 : υ.under 0 = υ := under_self' u0
  by_cases hjl : (j : Int) < t + 2
  · have hu := up_ok (trn F L j - 2 * w) t (by omega) (by unfold trn; omega)
    have hd := dn_ok (trn F L j + 2 * w) t (by omega) (by unfold trn; omega)
    rw [show -(-(trn F L j - 2 * w) / t) = upT F L w t j from rfl] at hu
    rw [show (trn F L j + 2 * w) / t = dnT F L w t j from rfl] at hd
    have b1 := fl_bd (a := -(trn F L j - 2 * w)) (b := t) (M := 1000000000000) (by omega) (by decide) (by unfold trn; omega)
    have b2 := fl_bd (a := trn F L j + 2 * w) (b := t) (M := 1000000000000) (by omega) (by decide) (by unfold trn; omega)
    rw [show (trn F L j + 2 * w) / t = dnT F L w t j from rfl] at b2
    have b3 : -1000000000000 ≤ upT F L w t j ∧ upT F L w t j ≤ 1000000000000 := by unfold upT; omega
    unfold trn at hu hd
    by_cases e : j = c0
    · subst e
      rw [if_neg (by omega)] at hb
      rcases id hb with ⟨rfl, _⟩ | ⟨_, _, _, _, h⟩
      · generalize upT F L w t (j : Int) = U at *
        generalize dnT F L w t (j : Int) = D at *
        simp (disch := omega) [Und, hjl, u0, u2, g0, n0, hu, hd, h0, -Bool.exists_bool]
        refine ⟨fun h => absurd h0 (by omega), ?_⟩
        refine Buf.push (lo := 1) (σ := υ) (xs := []) Buf.nil encSpan (by omega) (by omega) ⟨max r1 U, min r2 D⟩ (by simp only [topBytes, List.length_nil]; omega) rfl fun v' τ q1 q2 => ?_
        have l2 := q2.lim
        have n2 := q2.next
        simp (disch := omega) [-Bool.exists_bool]
        exact ⟨k - 1, by omega, j + 1, by omega, v', ⟨rfl, by omega⟩, by omega, by omega, (q2.get 0 (by omega)).trans g0, by rw [if_pos (by omega)]; exact q1⟩
      · exact absurd rfl h
    · have hn := hne j (by omega)
      have hn' : ¬ max r1 (upT F L w t j) ≤ min r2 (dnT F L w t j) := by omega
      generalize upT F L w t (j : Int) = U at *
      generalize dnT F L w t (j : Int) = D at *
      simp (disch := omega) [Und, hjl, u0, u2, g0, n0, hu, hd, hn, hn', -Bool.exists_bool]
      refine ⟨k - 1, by omega, j + 1, by omega, v, ⟨rfl, by omega⟩, u1, ?_⟩
      by_cases hc : c0 < j
      · rw [if_pos (by omega)]; rw [if_pos hc] at hb; exact hb
      · rw [if_neg (by omega)]; rw [if_neg hc] at hb; exact hb
  · rw [if_pos (by omega)] at hb
    rcases id hb with ⟨_, h⟩ | ⟨o, rfl, o1, og, _⟩
    · cases h
    · simp (disch := omega) [Und, hjl, u0, -Bool.exists_bool]
      rw [show aslS 2 (.slice (some (o, 0)) 1 (.op 2)) none (some (.int .i64 1)) (some (.int .i64 1)) = some (.slice (some (o, 0)) 1 (.ex 1)) from aslS_full 2 o 1]
      simp (disch := omega) [Und, -Bool.exists_bool]
      exact fz_whole encSpan Sx.flatSp (f := υ.cel) (o := o) (xs := [⟨max r1 (upT F L w t c0), min r2 (dnT F L w t c0)⟩]) (c := .ex 1) (AH.cel_get og) (.inr rfl) 5
end Go.Oct.Tri
