/- ShopMore: the law. -/
import Derived.Test.YtpgjndgpackffaaDoorOShopMor
set_option maxRecDepth 100000
set_option maxHeartbeats 4000000
set_option linter.unusedVariables false
set_option linter.unusedSimpArgs false
namespace Go.Oct.Shop
open Go.Oct
theorem flatPc : flatE ePc := fun x c hc k f => by
  simp only [ePc, cells_agg, List.mem_cons, List.not_mem_nil, or_false] at hc
  rcases hc with rfl | rfl | rfl <;> exact ⟨rfl, rfl⟩
theorem ShopMore_ok (nl : Bool) (l : List Pc) (men n : Int) {x : AV} (h : Slice ePc pcOK x nl l) (_ : i64 men) (_ : i64 n) : ans prog O 8 [vl ePc nl l, .int .i64 men, .int .i64 n] = some (.bool true) := by
  have hx := h.len
  refine fn_of' pl get8 (oo (by decide)) rfl rfl ?_
  by_cases ha : askV l men = 0
  · have ha' := ha
    unfold askV at ha'
    have ho : okOrd l := Decidable.byContradiction fun hn => by rw [if_neg hn] at ha'; omega
    rw [if_pos ho] at ha'
    have hm : 1 ≤ men ∧ men ≤ 12 := Decidable.byContradiction fun hn => by rw [if_neg hn] at ha'; omega
    have hl := ho.1
    have e1 := lsV_ok ho hm.1 hm.2
    have hp := lst_pos ho hm.1
    have hmore : men < 12 → askV l (men + 1) = 0 ∧ lsV l (men + 1) = lst l (men + 1) ∧ ¬ (lst l men).1 < (lst l (men + 1)).1 ∧ ¬ (lst l (men + 1)).1 < 1 := fun h12 => by
      have hle := lst_men ho hm.1
      have hp2 := lst_pos ho (men := men + 1) (by omega)
      exact ⟨askV_ok ho (by omega) (by omega), lsV_ok ho (by omega) (by omega), by omega, by omega⟩
    have b0 := Int.emod_nonneg n (show (l.length : Int) ≠ 0 by omega)
    have b1 := Int.emod_lt_of_pos n (show 0 < (l.length : Int) by omega)
    by_cases h12 : men < 12
    rotate_left
    simp (disch := omega) [ha, ho, hm, e1, h12, -Bool.exists_bool]
    rotate_left
    obtain ⟨a2, e2, g1, g2⟩ := hmore h12
    simp (disch := omega) [ha, ho, hm, e1, h12, a2, e2, g1, g2, -Bool.exists_bool]
    all_goals
      refine lp_loop pl (fun k fr σ => ∃ (q i : Nat), q * 13 + (l.length - i) = k ∧ i ≤ l.length ∧ q < l.length ∧ (∀ p, p < i → (nth l p).into ≠ (q : Int)) ∧ fr = ⟨[(0, vl ePc nl l), (1, .int .i64 men), (7, .int .i64 (lst l men).1), (13, .int .i64 q), (14, .int .i64 i)], []⟩ ∧ σ.lim = 0)
        ⟨_, (n % (l.length : Int)).toNat, 0, rfl, by omega, by omega, fun p hp => by omega, by rw [show (((n % (l.length : Int)).toNat : Nat) : Int) = n % (l.length : Int) by omega]; rfl, rfl⟩ ?_
      rintro k _ σ ⟨q, i, rfl, hil, hq, hfree, rfl, hl0⟩
      by_cases hi : i < l.length
      · by_cases he : (nth l i).into = (q : Int)
        · have := (ho.2 i hi).1
          simp (disch := omega) [Und, hl0, hi, he, -Bool.exists_bool]
          exact ⟨i * 13 + l.length, by omega, i, 0, by omega, by omega, hi, fun p hp => by omega, rfl, rfl⟩
        · simp (disch := omega) [Und, hl0, hi, he, -Bool.exists_bool]
          refine ⟨q * 13 + (l.length - (i + 1)), by omega, q, i + 1, by omega, by omega, hq, fun p hp => ?_, rfl, by omega⟩
          by_cases e : p = i
          · subst e; exact he
          · exact hfree p (by omega)
      · obtain rfl : i = l.length := by omega
        simp (disch := omega) [Und, hl0, -Bool.exists_bool]
        refine ⟨fun h1 => lst_one ho (by omega) hm.1, fun h1 => ?_⟩
        have hf : Leafy l q := hfree
        have h2 : 2 ≤ l.length := by omega
        refine lp_loop pl (fun k fr σ => ∃ (j : Nat) (v : AV), j + k = l.length ∧ fr = ⟨[(0, vl ePc nl l), (1, .int .i64 men), (7, .int .i64 (lst l men).1), (13, .int .i64 q), (15, v), (16, .int .i64 j)], []⟩ ∧ σ.lim = 0 ∧ Buf 0 3 ePc σ v (lessT l q j))
          ⟨l.length, 0, .vsl true [], by omega, rfl, hl0, by simpa [lessT] using Buf.nil⟩ ?_
        rintro k _ σ ⟨j, v, hj, rfl, hl0, hbuf⟩
        by_cases hjl : j < l.length
        · have hst := lessT_succ hq hjl
          have hlen : (lessT l q j).length ≤ 12 := by
            unfold lessT
            have := List.length_eraseIdx_le (l.take j) q
            rw [List.length_map]
            have : (l.take j).length ≤ 12 := by simp; omega
            omega
          have hin := (ho.2 j hjl).1
          have hgrow : ∀ τ : AH, (∀ i, i < σ.next → τ.get i = σ.get i) → Buf 0 3 ePc τ v (lessT l q j) := fun τ hτ => hbuf.keep fun i _ h2 => hτ i h2
          by_cases hjq : j = q
          · subst hjq
            rw [if_pos rfl] at hst
            by_cases hc : (j : Int) < (nth l j).into
            all_goals
              simp (disch := omega) [Und, hl0, hjl, hc, -Bool.exists_bool]
              refine ⟨k - 1, by omega, j + 1, by omega, v, ⟨rfl, by omega⟩, ?_⟩
              rw [hst]
              exact hgrow _ fun i hi => by simp (disch := omega) [eqF1]
          · rw [if_neg hjq] at hst
            have hjq2 : ¬ (j : Int) = (q : Int) := by omega
            by_cases hc : (q : Int) < (nth l j).into
            all_goals
              have hsh : sh q (nth l j) = ⟨if (q : Int) < (nth l j).into then (nth l j).into - 1 else (nth l j).into, (nth l j).br, (nth l j).iv⟩ := rfl
              simp (disch := omega) only [hc, if_true, if_false] at hsh
              simp (disch := omega) [Und, hl0, hjl, hc, hjq2, -Bool.exists_bool]
              generalize hτ : AH.set _ σ.next _ = τ
              have τl : τ.lim = 0 := by rw [← hτ]; exact hl0
              have τn : τ.next = σ.next + 1 := by rw [← hτ]; rfl
              have τg : ∀ i, i < σ.next → τ.get i = σ.get i := fun i h1 => by rw [← hτ]; simp (disch := omega) [eqF1]
              rw [← τn]
              refine (hgrow τ τg).push encPc (by omega) (by omega) (sh q (nth l j)) (by simp only [topBytes]; omega) (by rw [hsh]; rfl) fun v' σ1 h3 h4 => ?_
              rw [← hst] at h3
              have hlim := h4.lim
              simp (disch := omega) [-Bool.exists_bool]
              exact ⟨k - 1, by omega, j + 1, by omega, v', ⟨rfl, by omega⟩, by omega, h3⟩
        · obtain rfl : j = l.length := by omega
          have hlo := less_ok ho hq hf h2
          have hll := less_len hq
          have c1 := askV_ok hlo hm.1 hm.2
          have c2 := lsV_ok hlo hm.1 hm.2
          have c3 := lst_less ho hq hf h2 hm.1
          have hans := Least_ok (lessT l q l.length).isEmpty (less l q) men (by omega)
          rw [c1, c2] at hans
          have hh := height_bd hlo
          have c4 := lstTo_bd hlo hm.1 (height (less l q)) (by omega)
          have c5 : (lst (less l q) men).1 ≤ 24 := c4.2.1
          have c6 : 0 ≤ (lst (less l q) men).1 := c4.1
          simp (disch := omega) [Und, hl0, -Bool.exists_bool]
          refine hbuf.callN encPc flatPc (by omega) (oo (args := []) (by decide)).1 hans fun σ' hS => ?_
          simp (disch := omega) [Und, hl0, c3.1, c3.2, -Bool.exists_bool]
  · have e : lsV l men = (0, 0) := by unfold lsV; rw [if_neg ha]
    simp (disch := omega) [ha, e]
end Go.Oct.Shop
