/- A truth that numbers choose. -/
import Derived.Test.YtddkghgfbhhcdaaOCryErr
import Derived.Test.YtddkghgfbhhcdaaOCryConY
set_option maxRecDepth 100000
set_option maxHeartbeats 2000000
set_option linter.unusedVariables false
set_option linter.unusedSimpArgs false
namespace Go.Oct.Cry
open Go.Oct
def chz (l h n : Int) : Int := if h ≤ l then l else l + n % (h - l + 1)
theorem chz_in {l h n : Int} (hl : l ≤ h) : l ≤ chz l h n ∧ chz l h n ≤ h := by
  unfold chz
  split
  · omega
  · have h1 := Int.emod_nonneg n (show h - l + 1 ≠ 0 by omega)
    have h2 := Int.emod_lt_of_pos n (show 0 < h - l + 1 by omega)
    omega
@[simp] theorem Chosen_ok (l h n : Int) (h1 : -1000000000 ≤ l) (h2 : h ≤ 1000000000) (h3 : l ≤ 1000000000) (h4 : -1000000000 ≤ h) : ans prog O 16 [.int .i64 l, .int .i64 h, .int .i64 n] = some (.int .i64 (chz l h n)) := by
  refine fn_of' pl get16 (oo (by decide)) rfl rfl ?_
  unfold chz
  by_cases hl : h ≤ l
  · rw [if_pos hl]
    simp (disch := omega) [hl]
  · rw [if_neg hl]
    have e1 := Int.emod_nonneg n (show h - l + 1 ≠ 0 by omega)
    have e2 := Int.emod_lt_of_pos n (show 0 < h - l + 1 by omega)
    have q1 : ¬ h - l + 1 < 1 := by omega
    simp (disch := omega) [hl, q1]
    try omega
def pick (b : List Int) (n : Int) : Int := nth b (n % (b.length : Int)).toNat
def chR (b : List Int) (l : List Span) (o : Int) (n : Nat) : List Int := (List.range n).map fun i => chz (nth l i).lo (nth l i).hi (pick b (o + (i : Int)))
theorem chR_succ (b : List Int) (l : List Span) (o : Int) (n : Nat) : chR b l o (n + 1) = chR b l o n ++ [chz (nth l n).lo (nth l n).hi (pick b (o + (n : Int)))] := by unfold chR; rw [List.range_succ, List.map_append]; rfl
theorem chR_len (b : List Int) (l : List Span) (o : Int) (n : Nat) : (chR b l o n).length = n := by unfold chR; simp
theorem bufVal {α : Type} {lo z : Nat} {en : α → AV} {σ : AH} {v : AV} {xs : List α} (h : Buf lo z en σ v xs) : v.dfd = true ∧ v.cells = [v] ∧ v.one = true := by
  rcases h with ⟨rfl, _⟩ | ⟨i, rfl, _⟩ <;> exact ⟨rfl, rfl, rfl⟩
theorem truth_ok (nT nR nD nb : Bool) (T : List Int) (R : List Span) (a e : Span) (D : List Span) (b : List Int) (z : Int) (hz : 0 ≤ z ∧ z ≤ 1000) (hb : b.length < 2 ^ 62) (h : okClk T R a e) (hd : okDays T D) :
    ans prog O 27 [eClk nT nR T R a e, vl eSpan nD D, vs nb b, .int .i64 z] = some (eTru (chR b R (z + 2) R.length).isEmpty (chR b D (z + 3) D.length).isEmpty (chR b R (z + 2) R.length) (chz a.lo a.hi (pick b z)) (chz e.lo e.hi (pick b (z + 1))) (chR b D (z + 3) D.length)) := by
  have hTl := (okT_of h).1
  have hRl : R.length = T.length := by have := h.1.2.1; omega
  have hdl := hd.1
  have ha := h.1.2.2.1
  have he := h.1.2.2.2
  unfold isIn at ha he
  refine fn_of' pl get27 (oo (by decide)) rfl rfl ?_
  simp (disch := omega) [-Bool.exists_bool]
  refine lp_loop pl (fun k fr σ => ∃ (j : Nat) (v : AV), j + k = R.length ∧ fr = ⟨[(1, vl eSpan nD D), (2, vs nb b), (3, .int .i64 z), (4, .ptr (some (0, 0))), (8, .ptr (some (1, 0))), (9, .ptr (some (2, 0))), (10, .int .i64 j)], []⟩ ∧ σ.lim = 0 ∧ 3 ≤ σ.next ∧
    σ.get 0 = some (.cells [vs nT T, vl eSpan nR R, .int .i64 a.lo, .int .i64 a.hi, .int .i64 e.lo, .int .i64 e.hi]) ∧ σ.get 1 = some (.cells [.vsl true [], .int .i64 0, .int .i64 0, .vsl true []]) ∧
    σ.get 2 = some (.cells [v, .int .i64 (chz a.lo a.hi (pick b z)), .int .i64 (chz e.lo e.hi (pick b (z + 1))), .vsl true []]) ∧ Buf 3 1 (AV.int .i64) σ v (chR b R (z + 2) j))
    ⟨R.length, 0, .vsl true [], by omega, rfl, by simp, by simp, by simp, by simp, by simp [pick], Buf.nil⟩ ?_
  rintro k _ σ ⟨j, v, hj, rfl, hl0, hn, hg0, hg1, hg2, hbuf⟩
  by_cases hjl : j < R.length
  · have hr := (h.2 j (by omega)).2.2
    unfold isIn at hr
    have hu := under_self hl0
    have n0 : 0 < σ.next := by omega
    have n2 : 2 < σ.next := by omega
    simp (disch := omega) [Und, hl0, hn, hg0, hg1, hg2, hjl, hu, n0, n2, -Bool.exists_bool]
    refine hbuf.push encI (by omega) (by omega) (chz (nth R j).lo (nth R j).hi (pick b (z + 2 + (j : Int)))) (by rw [chR_len]; simp only [topBytes]; omega) rfl fun v' σ' z1 z2 => ?_
    have hlim := z2.lim
    have hnext := z2.next
    have g0 := (z2.get 0 (by omega)).trans hg0
    have g1 := (z2.get 1 (by omega)).trans hg1
    have g2 := (z2.get 2 (by omega)).trans hg2
    have l' : σ'.lim = 0 := by omega
    have m2 : 2 < σ'.next := by omega
    obtain ⟨w1, w2, w3⟩ := bufVal z1
    simp (disch := omega) [g0, g1, g2, l', m2, w1, w2, w3, -Bool.exists_bool]
    exact ⟨k - 1, by omega, j + 1, by omega, by omega, by omega, by rw [chR_succ]; exact z1.keep fun i h1 h2 => AH.get_set_other _ _ _ _ (by omega)⟩
  · obtain rfl : j = R.length := by omega
    simp (disch := omega) [Und, hl0, hn, hg0, hg1, hg2, -Bool.exists_bool]
    refine lp_loop pl (fun k fr σ => ∃ (j : Nat) (w : AV), j + k = D.length ∧ fr = ⟨[(1, vl eSpan nD D), (2, vs nb b), (3, .int .i64 z), (8, .ptr (some (1, 0))), (9, .ptr (some (2, 0))), (11, .int .i64 j)], []⟩ ∧ σ.lim = 0 ∧ 3 ≤ σ.next ∧
      σ.get 1 = some (.cells [.vsl true [], .int .i64 0, .int .i64 0, .vsl true []]) ∧
      σ.get 2 = some (.cells [v, .int .i64 (chz a.lo a.hi (pick b z)), .int .i64 (chz e.lo e.hi (pick b (z + 1))), w]) ∧ Buf 3 1 (AV.int .i64) σ v (chR b R (z + 2) R.length) ∧ Buf 3 1 (AV.int .i64) σ w (chR b D (z + 3) j) ∧ ∀ i ∈ obj v, i ∉ obj w)
      ⟨D.length, 0, .vsl true [], by omega, rfl, hl0, hn, hg1, hg2, hbuf, Buf.nil, by simp [obj]⟩ ?_
    rintro k2 _ σ1 ⟨j, w, hj2, rfl, l0, l1, e1, e2, hv, hw, hvw⟩
    by_cases hjl : j < D.length
    · have hr := hd.2 j hjl
      unfold isIn at hr
      have ht0 := (okT_of h).2.1 0 (by omega)
      have htl := (okT_of h).2.1 (T.length - 1) (by omega)
      have hu := under_self l0
      have n2 : 2 < σ1.next := by omega
      simp (disch := omega) [Und, l0, l1, e1, e2, hjl, hu, n2, -Bool.exists_bool]
      refine hw.push encI (by omega) (by omega) (chz (nth D j).lo (nth D j).hi (pick b (z + 3 + (j : Int)))) (by rw [chR_len]; simp only [topBytes]; omega) rfl fun v' σ' z1 z2 => ?_
      have hlim := z2.lim
      have hnext := z2.next
      have g1 := (z2.get 1 (by omega)).trans e1
      have g2 := (z2.get 2 (by omega)).trans e2
      have l' : σ'.lim = 0 := by omega
      have m2 : 2 < σ'.next := by omega
      obtain ⟨w1, w2, w3⟩ := bufVal z1
      simp (disch := omega) [g1, g2, l', m2, w1, w2, w3, -Bool.exists_bool]
      have hvl : ∀ i ∈ obj v, i < σ1.next ∧ 3 ≤ i := by
        rcases hv with ⟨rfl, _⟩ | ⟨i, rfl, h3, h4, _⟩
        · intro i hi; simp [obj] at hi
        · intro q hq; simp [obj] at hq; subst hq; exact ⟨AH.get_lt h4, h3⟩
      refine ⟨k2 - 1, by omega, j + 1, by omega, by omega, by omega, ?_, by rw [chR_succ]; exact z1.keep fun i h1 h2 => AH.get_set_other _ _ _ _ (by omega), fun i hi hi2 => ?_⟩
      · rcases hv with h | ⟨i, q1, q2, q3, q4⟩
        · exact .inl h
        · have hi : i ∈ obj v := by rw [q1]; simp [obj]
          exact .inr ⟨i, q1, q2, by rw [AH.get_set_other _ _ _ _ (by omega), z2.only.get i (hvl i hi).1 (hvw i hi)]; exact q3, q4⟩
      · rcases z2.fresh i hi2 with h | h
        · exact hvw i hi h
        · have := (hvl i hi).1; omega
    · obtain rfl : j = D.length := by omega
      obtain ⟨a1, a2, a3⟩ := bufVal hv
      obtain ⟨c1, c2, c3⟩ := bufVal hw
      have n1 : 1 < σ1.next := by omega
      simp (disch := omega) [Und, l0, l1, e1, e2, a3, c3, n1, -Bool.exists_bool]
      exact ⟨(hv.keep fun i h1 h2 => AH.get_set_other _ _ _ _ (by omega)).fzI 5, (hw.keep fun i h1 h2 => AH.get_set_other _ _ _ _ (by omega)).fzI 5⟩
end Go.Oct.Cry
