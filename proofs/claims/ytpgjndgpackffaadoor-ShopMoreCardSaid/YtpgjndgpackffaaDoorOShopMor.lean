/- ShopMore: one journeyman more; one piece less. -/
import Derived.Test.YtpgjndgpackffaaDoorOShopEno
set_option maxRecDepth 100000
set_option maxHeartbeats 4000000
set_option linter.unusedVariables false
set_option linter.unusedSimpArgs false
namespace Go.Oct.Shop
open Go.Oct
theorem bnd_men {l : List Pc} {m j : Int} (hm : 1 ≤ m) : bnd l (m + 1) j ≤ bnd l m j := by
  unfold bnd
  have h1 := Int.mul_ediv_add_emod ((above l j : Int) + m - 1) m
  have h2 := Int.emod_lt_of_pos ((above l j : Int) + m - 1) (show 0 < m by omega)
  have h3 := Int.emod_nonneg ((above l j : Int) + m - 1) (show m ≠ 0 by omega)
  have h4 : 0 ≤ ((above l j : Int) + m - 1) / m := Int.ediv_nonneg (by omega) (by omega)
  generalize ((above l j : Int) + m - 1) / m = q at *
  have : ((above l j : Int) + (m + 1) - 1) / (m + 1) ≤ q := by
    apply Int.le_of_lt_add_one
    apply (Int.ediv_lt_iff_lt_mul (by omega)).2
    have e : (q + 1) * (m + 1) = m * q + q + m + 1 := by rw [Int.add_mul, Int.mul_add, Int.mul_comm q m]; omega
    rw [e]; omega
  omega
theorem lst_le {l l' : List Pc} {m m' b : Int} {n : Nat} (hb : 0 ≤ b) (h : ∀ j : Nat, j < n → bnd l m j ≤ b) : (lstTo l m n).1 ≤ b := by
  by_cases h0 : 0 < (lstTo l m n).1
  · obtain ⟨j, h1, _, h2, _⟩ := lst_at h0
    rw [h2]; exact h j h1
  · omega
theorem lst_men {l : List Pc} (h : okOrd l) {m : Int} (hm : 1 ≤ m) : (lst l (m + 1)).1 ≤ (lst l m).1 := by
  have hp := lst_pos h hm
  refine lst_le (l' := l) (m' := m) (by omega) fun j hj => ?_
  have h1 := bnd_men (l := l) (j := j) hm
  have h2 := lst_ge (l := l) (men := m) hj
  unfold lst
  omega
/-! ### One piece less -/
def sh (k : Int) (x : Pc) : Pc := ⟨if k < x.into then x.into - 1 else x.into, x.br, x.iv⟩
def lessT (l : List Pc) (k n : Nat) : List Pc := ((l.take n).eraseIdx k).map (sh k)
def less (l : List Pc) (k : Nat) : List Pc := lessT l k l.length
def up (k i : Nat) : Nat := if i < k then i else i + 1
theorem up_lt {k i : Nat} (h : i < k) : up k i = i := by unfold up; rw [if_pos h]
theorem up_ge' {k i : Nat} (h : k ≤ i) : up k i = i + 1 := by unfold up; rw [if_neg (by omega)]
theorem up_bd (k i : Nat) : i ≤ up k i ∧ up k i ≤ i + 1 ∧ up k i ≠ k := by unfold up; split <;> omega
theorem lessT_succ {l : List Pc} {k n : Nat} (hk : k < l.length) (hn : n < l.length) : lessT l k (n + 1) = if n = k then lessT l k n else lessT l k n ++ [sh k (nth l n)] := by
  unfold lessT
  rw [take_succ_nth hn]
  have hl : (l.take n).length = n := by simp; omega
  by_cases e : n = k
  · subst e
    rw [if_pos rfl, List.eraseIdx_append_of_length_le (by omega), hl, Nat.sub_self, List.eraseIdx_of_length_le (l := l.take n) (by omega)]
    simp
  · rw [if_neg e]
    by_cases h : k < n
    · rw [List.eraseIdx_append_of_lt_length (by omega), List.map_append]; rfl
    · rw [List.eraseIdx_append_of_length_le (by omega), hl, List.eraseIdx_of_length_le (l := l.take n) (by omega)]
      have : [nth l n].eraseIdx (k - n) = [nth l n] := List.eraseIdx_of_length_le (by simp; omega)
      rw [this, List.map_append]; rfl
theorem less_len {l : List Pc} {k : Nat} (hk : k < l.length) : (less l k).length = l.length - 1 := by
  unfold less lessT
  rw [List.length_map, List.take_length, List.length_eraseIdx_of_lt hk]
theorem less_nth {l : List Pc} {k i : Nat} (hk : k < l.length) (hi : i < l.length - 1) : nth (less l k) i = sh k (nth l (up k i)) := by
  have h1 : (l.eraseIdx k).length = l.length - 1 := List.length_eraseIdx_of_lt hk
  unfold less lessT
  rw [List.take_length, nth_map _ (by omega)]
  congr 1
  rw [nth_eq (by omega), List.getElem_eraseIdx]
  unfold up
  split
  · rw [nth_eq (by omega)]
  · rw [nth_eq (by omega)]
/-- Nothing is built into it. -/
def Leafy (l : List Pc) (k : Nat) : Prop := ∀ i, i < l.length → (nth l i).into ≠ (k : Int)
theorem less_into {l : List Pc} (h : okOrd l) {k i : Nat} (hk : k < l.length) (hf : Leafy l k) (hi : i < l.length - 1) :
    ((nth (less l k) i).into = -1 ∧ (nth l (up k i)).into = -1) ∨ (∃ q : Nat, (nth (less l k) i).into = q ∧ i < q ∧ q < l.length - 1 ∧ (nth l (up k i)).into = (up k q : Nat)) := by
  have hu : up k i < l.length := by unfold up; split <;> omega
  rw [less_nth hk hi]
  by_cases e : (nth l (up k i)).into = -1
  · refine .inl ⟨?_, e⟩
    unfold sh
    simp only [e]
    rw [if_neg (by omega)]
  · refine .inr ?_
    obtain ⟨h1, h2, h3⟩ := into_lt h hu e
    have h4 := hf _ hu
    by_cases h5 : (k : Int) < (nth l (up k i)).into
    · refine ⟨(nth l (up k i)).into.toNat - 1, ?_, ?_, by omega, ?_⟩
      · unfold sh; simp only; rw [if_pos h5]; omega
      · have := up_bd k i
        rcases Nat.lt_or_ge i k with h6 | h6
        · omega
        · have := up_ge' h6; omega
      · have := up_ge' (k := k) (i := (nth l (up k i)).into.toNat - 1) (by omega)
        rw [this]; omega
    · refine ⟨(nth l (up k i)).into.toNat, ?_, ?_, by omega, ?_⟩
      · unfold sh; simp only; rw [if_neg h5]; omega
      · have := up_bd k i
        omega
      · have := up_lt (k := k) (i := (nth l (up k i)).into.toNat) (by omega)
        rw [this]; omega
theorem less_ok {l : List Pc} (h : okOrd l) {k : Nat} (hk : k < l.length) (hf : Leafy l k) (h2 : 2 ≤ l.length) : okOrd (less l k) := by
  have hl := h.1
  have hll := less_len hk
  refine ⟨by omega, fun i hi => ?_⟩
  rw [hll] at hi
  have hu : up k i < l.length := by unfold up; split <;> omega
  obtain ⟨_, p2⟩ := h.2 _ hu
  refine ⟨?_, ?_⟩
  · rcases less_into h hk hf hi with ⟨e, _⟩ | ⟨q, e1, e2, e3, _⟩
    · exact .inl e
    · right; rw [e1, hll]; omega
  · rw [less_nth hk hi]; exact p2
theorem less_lev {l : List Pc} (h : okOrd l) {k : Nat} (hk : k < l.length) (hf : Leafy l k) (h2 : 2 ≤ l.length) : ∀ (d i : Nat), i + d + 1 = l.length - 1 → lev (less l k) i = lev l (up k i)
  | d, i, hd => by
    induction d using Nat.strongRecOn generalizing i with
    | ind d ih =>
      have hl := less_ok h hk hf h2
      have hll := less_len hk
      have hu : up k i < l.length := by unfold up; split <;> omega
      rcases less_into h hk hf (i := i) (by omega) with ⟨e1, e2⟩ | ⟨q, e1, e2, e3, e4⟩
      · rw [lev_end hl (by omega) e1, lev_end h hu e2]
      · rw [lev_into hl (by omega) (by omega), lev_into h hu (by omega), e1, e4, Int.toNat_natCast, Int.toNat_natCast, ih (l.length - 1 - q - 1) (by omega) q (by omega)]
theorem cnt_skip {p : Nat → Bool} {k : Nat} : ∀ {n : Nat}, k ≤ n → cnt p (n + 1) = cnt (fun i => p (up k i)) n + if p k then 1 else 0
  | 0, h => by
    obtain rfl : k = 0 := by omega
    simp [cnt]
  | n + 1, h => by
    by_cases e : k = n + 1
    · subst e
      have e1 : cnt (fun i => p (up (n + 1) i)) (n + 1) = cnt p (n + 1) := cnt_congr fun i hi => by unfold up; rw [if_pos hi]
      rw [e1]; rfl
    · have ih := cnt_skip (p := p) (k := k) (n := n) (by omega)
      have e1 : up k n = n + 1 := by unfold up; rw [if_neg (by omega)]
      have e2 : cnt p (n + 1 + 1) = cnt p (n + 1) + if p (n + 1) then 1 else 0 := rfl
      have e3 : cnt (fun i => p (up k i)) (n + 1) = cnt (fun i => p (up k i)) n + if p (up k n) then 1 else 0 := rfl
      rw [e2, ih, e3, e1]; omega
theorem less_above {l : List Pc} (h : okOrd l) {k : Nat} (hk : k < l.length) (hf : Leafy l k) (h2 : 2 ≤ l.length) (j : Int) : above l j = above (less l k) j + if j < (lev l k : Int) then 1 else 0 := by
  unfold above
  rw [less_len hk]
  obtain ⟨n, hn⟩ : ∃ n, l.length = n + 1 := ⟨l.length - 1, by omega⟩
  have e1 := cnt_skip (p := fun i => decide (j < (lev l i : Int))) (k := k) (n := n) (by omega)
  rw [hn, e1, Nat.add_sub_cancel]
  have e2 : cnt (fun i => decide (j < (lev l (up k i) : Int))) n = cnt (fun i => decide (j < (lev (less l k) i : Int))) n := cnt_congr fun i hi => by rw [less_lev h hk hf h2 (n - 1 - i) i (by omega)]
  rw [e2]
  simp
theorem above_height {l : List Pc} {j : Nat} (h : 0 < above l (j : Int)) : j < height l := by
  obtain ⟨i, h1, h2⟩ := cnt_pos.1 h
  have h3 : (j : Int) < (lev l i : Int) := by simpa using h2
  have := maxTo_ge (lev l) h1
  unfold height
  omega
theorem bnd_less {l : List Pc} (h : okOrd l) {k : Nat} (hk : k < l.length) (hf : Leafy l k) (h2 : 2 ≤ l.length) {m : Int} (hm : 1 ≤ m) (j : Int) : bnd (less l k) m j ≤ bnd l m j ∧ bnd l m j ≤ bnd (less l k) m j + 1 := by
  have ha := less_above h hk hf h2 j
  unfold bnd
  rw [ha]
  generalize above (less l k) j = a
  have e1 : ((a : Int) + m - 1) / m ≤ ((a : Int) + 1 + m - 1) / m := Int.ediv_le_ediv (by omega) (by omega)
  have e2 : ((a : Int) + 1 + m - 1) / m ≤ ((a : Int) + m - 1) / m + 1 := by
    have : ((a : Int) + m - 1) / m + 1 = ((a : Int) + m - 1 + m) / m := by rw [Int.add_ediv_of_dvd_right (Int.dvd_refl m), Int.ediv_self (by omega)]
    rw [this]
    exact Int.ediv_le_ediv (by omega) (by omega)
  split
  · have e3 : ((a + 1 : Nat) : Int) = (a : Int) + 1 := by omega
    rw [e3]; omega
  · rw [Nat.add_zero]; omega
theorem lst_less {l : List Pc} (h : okOrd l) {k : Nat} (hk : k < l.length) (hf : Leafy l k) (h2 : 2 ≤ l.length) {m : Int} (hm : 1 ≤ m) : (lst (less l k) m).1 ≤ (lst l m).1 ∧ (lst l m).1 ≤ (lst (less l k) m).1 + 1 := by
  have ho := less_ok h hk hf h2
  have hp := lst_pos h hm
  have hp' := lst_pos ho hm
  constructor
  · refine lst_le (l' := l) (m' := m) (by omega) fun j hj => ?_
    have h1 := (bnd_less h hk hf h2 hm (j : Int)).1
    have h3 := above_pos ho hj
    have h4 := less_above h hk hf h2 (j : Int)
    have h5 : j < height l := above_height (by omega)
    have h6 := lst_ge (l := l) (men := m) h5
    unfold lst
    omega
  · refine lst_le (l' := l) (m' := m) (by omega) fun j hj => ?_
    by_cases h3 : j < height (less l k)
    · have h1 := (bnd_less h hk hf h2 hm (j : Int)).2
      have h6 := lst_ge (l := less l k) (men := m) h3
      unfold lst
      omega
    · have h4 := less_above h hk hf h2 (j : Int)
      have h0 : above (less l k) j = 0 := by
        apply Decidable.byContradiction
        intro hc
        exact h3 (above_height (by omega))
      have h5 := above_pos h hj
      rw [h0] at h4
      have h7 : (j : Int) < (lev l k : Int) := by
        apply Decidable.byContradiction
        intro hc
        rw [if_neg hc] at h4; omega
      rw [if_pos h7] at h4
      have hb : bnd l m j = j + 1 := by
        unfold bnd
        rw [h4]
        have : ((0 + 1 : Nat) : Int) + m - 1 = m := by omega
        rw [this, Int.ediv_self (by omega)]
      have hh := height_bd ho
      have hge := lst_ge (l := less l k) (men := m) (n := height (less l k)) (j := height (less l k) - 1) (by omega)
      have hab := above_pos ho (j := height (less l k) - 1) (by omega)
      have hb2 := bnd_bd ho hm (j := ((height (less l k) - 1 : Nat) : Int)) (by omega)
      have hb3 : ((height (less l k) - 1 : Nat) : Int) + 1 ≤ bnd (less l k) m ((height (less l k) - 1 : Nat) : Int) := by
        unfold bnd
        have : (1 : Int) ≤ ((above (less l k) ((height (less l k) - 1 : Nat) : Int) : Int) + m - 1) / m := (Int.le_ediv_iff_mul_le (by omega)).2 (by omega)
        omega
      have hjh : j ≤ height (less l k) := by
        by_cases e : (nth l k).into = -1
        · rw [lev_end h hk e] at h7; omega
        · have e1 := lev_into h hk e
          obtain ⟨i1, i2, i3⟩ := into_lt h hk e
          have e2 := less_lev h hk hf h2 (l.length - 1 - ((nth l k).into.toNat - 1) - 1) ((nth l k).into.toNat - 1) (by omega)
          have e3 : up k ((nth l k).into.toNat - 1) = (nth l k).into.toNat := by
            rw [up_ge' (by omega)]; omega
          rw [e3] at e2
          have := maxTo_ge (lev (less l k)) (n := (less l k).length) (i := (nth l k).into.toNat - 1) (by rw [less_len hk]; omega)
          unfold height
          omega
      rw [hb]
      unfold lst
      omega
theorem lst_one {l : List Pc} (h : okOrd l) (h1 : l.length = 1) {m : Int} (hm : 1 ≤ m) : (lst l m).1 = 1 := by
  have hp := lst_pos h hm
  have hle : (lst l m).1 ≤ 1 := by
    refine lst_le (l' := l) (m' := m) (by omega) fun j hj => ?_
    have e : (nth l 0).into = -1 := by
      have := (h.2 0 (by omega)).1
      omega
    have e1 := lev_end h (i := 0) (by omega) e
    have e2 : height l = 1 := by unfold height; rw [h1]; simp [maxTo, e1]
    obtain rfl : j = 0 := by omega
    have h4 := above_le l ((0 : Nat) : Int)
    have : ((above l ((0 : Nat) : Int) : Int) + m - 1) / m ≤ 1 := by
      apply Int.le_of_lt_add_one
      apply (Int.ediv_lt_iff_lt_mul (by omega)).2
      omega
    unfold bnd
    omega
  omega
end Go.Oct.Shop
