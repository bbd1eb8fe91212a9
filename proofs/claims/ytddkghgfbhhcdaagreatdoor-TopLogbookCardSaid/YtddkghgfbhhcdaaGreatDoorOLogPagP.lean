/- The page of numbers with all sums, plain. -/
import Derived.Test.YtddkghgfbhhcdaaGreatDoorOLogSoaP
set_option maxRecDepth 100000
set_option maxHeartbeats 4000000
set_option linter.unusedVariables false
set_option linter.unusedSimpArgs false
namespace Go.Oct.Log
open Go.Oct
theorem nsum_congr {f g : Nat → Nat} : ∀ n, (∀ i, i < n → f i = g i) → nsum f n = nsum g n
  | 0, _ => rfl
  | n + 1, h => by rw [nsum, nsum, nsum_congr n fun i hi => h i (by omega), h n (by omega)]
theorem nsum_add (f g : Nat → Nat) : ∀ n, nsum (fun i => f i + g i) n = nsum f n + nsum g n
  | 0 => rfl
  | n + 1 => by rw [nsum, nsum, nsum, nsum_add f g n]; omega
theorem nsum_zero : ∀ n, nsum (fun _ => 0) n = 0
  | 0 => rfl
  | n + 1 => by rw [nsum, nsum_zero n]
theorem nsum_comm (f : Nat → Nat → Nat) (m : Nat) : ∀ n, nsum (fun i => nsum (f i) m) n = nsum (fun k => nsum (fun i => f i k) n) m
  | 0 => by simp only [nsum]; exact (nsum_zero m).symm
  | n + 1 => by
    simp only [nsum]
    rw [nsum_comm f m n, nsum_add]
theorem nsum_le {f : Nat → Nat} {b : Nat} : ∀ n, (∀ i, i < n → f i ≤ b) → nsum f n ≤ n * b
  | 0, _ => by simp [nsum]
  | n + 1, h => by
    have := nsum_le n fun i hi => h i (by omega)
    have := h n (by omega)
    rw [nsum, Nat.add_mul]
    omega
/-- Rows with their sums. -/
def rowN (w : Nat) (r : List Nat) : List Nat := r ++ [nsum (nth r) w]
def colS (rs : List (List Nat)) (k n : Nat) : Nat := nsum (fun i => nth (nth rs i) k) n
def allS (rs : List (List Nat)) (w n : Nat) : Nat := nsum (fun i => nsum (nth (nth rs i)) w) n
def sumsN (w : Nat) (rs : List (List Nat)) (n : Nat) : List Nat := (List.range w).map (fun k => colS rs k n) ++ [allS rs w n]
def pageN (w : Nat) (rs : List (List Nat)) : List (List Nat) := rs.map (rowN w) ++ [sumsN w rs rs.length]
def dgs (r : List Nat) : List (List Int) := r.map dg
def pageB (w : Nat) (rs : List (List Nat)) : Page := (pageN w rs).map dgs
/-- A table that can be written down. -/
structure okT (w : Nat) (rs : List (List Nat)) : Prop where
  rows : 1 ≤ rs.length ∧ rs.length ≤ 4
  cols : 1 ≤ w ∧ w ≤ 4
  wide : ∀ i, i < rs.length → (nth rs i).length = w
  top : ∀ i k, i < rs.length → k < w → nth (nth rs i) k ≤ 6000
theorem nth_out {α : Type} [Inhabited α] {l : List α} {j : Nat} (h : l.length ≤ j) : nth l j = default := by simp [nth, List.getD_eq_getElem?_getD, List.getElem?_eq_none h]
theorem sumsN_len (w : Nat) (rs : List (List Nat)) (n : Nat) : (sumsN w rs n).length = w + 1 := by simp [sumsN]
theorem sumsN_lo {w : Nat} {rs : List (List Nat)} {n k : Nat} (h : k < w) : nth (sumsN w rs n) k = colS rs k n := by
  unfold sumsN
  rw [nth_append_left (by simpa using h), nth_map _ (by simpa using h)]
  simp [nth, List.getD_eq_getElem?_getD, h]
theorem sumsN_hi {w : Nat} {rs : List (List Nat)} {n : Nat} : nth (sumsN w rs n) w = allS rs w n := by
  unfold sumsN
  have := nth_last ((List.range w).map (fun k => colS rs k n)) (allS rs w n)
  rw [List.length_map, List.length_range] at this
  exact this
theorem rowN_lo {w : Nat} {r : List Nat} (hw : r.length = w) {k : Nat} (h : k < w) : nth (rowN w r) k = nth r k := nth_append_left (by omega)
theorem rowN_hi {w : Nat} {r : List Nat} (hw : r.length = w) : nth (rowN w r) w = nsum (nth r) w := by
  have := nth_last r (nsum (nth r) w)
  rw [hw] at this
  exact this
theorem rowN_len (w : Nat) (r : List Nat) : (rowN w r).length = r.length + 1 := by simp [rowN]
theorem pageN_len (w : Nat) (rs : List (List Nat)) : (pageN w rs).length = rs.length + 1 := by simp [pageN]
theorem pageN_lo {w : Nat} {rs : List (List Nat)} {i : Nat} (h : i < rs.length) : nth (pageN w rs) i = rowN w (nth rs i) := by
  unfold pageN
  rw [nth_append_left (by simpa using h), nth_map _ h]
theorem pageN_hi {w : Nat} {rs : List (List Nat)} : nth (pageN w rs) rs.length = sumsN w rs rs.length := by
  have := nth_last (rs.map (rowN w)) (sumsN w rs rs.length)
  rw [List.length_map] at this
  exact this
theorem pageB_len (w : Nat) (rs : List (List Nat)) : (pageB w rs).length = rs.length + 1 := by simp [pageB, pageN]
theorem pageB_nth {w : Nat} {rs : List (List Nat)} {i : Nat} (h : i < rs.length + 1) : nth (pageB w rs) i = dgs (nth (pageN w rs) i) := by
  unfold pageB
  rw [nth_map _ (by rw [pageN_len]; exact h)]
theorem dgs_len (r : List Nat) : (dgs r).length = r.length := by simp [dgs]
theorem dgs_nth {r : List Nat} {k : Nat} (h : k < r.length) : nth (dgs r) k = dg (nth r k) := nth_map _ h
theorem pageN_wide {w : Nat} {rs : List (List Nat)} (ht : okT w rs) {i : Nat} (h : i < rs.length + 1) : (nth (pageN w rs) i).length = w + 1 := by
  by_cases e : i < rs.length
  · rw [pageN_lo e, rowN_len, ht.wide i e]
  · obtain rfl : i = rs.length := by omega
    rw [pageN_hi, sumsN_len]
theorem colS_le {w : Nat} {rs : List (List Nat)} (ht : okT w rs) {k : Nat} (hk : k < w) {n : Nat} (hn : n ≤ rs.length) : colS rs k n ≤ n * 6000 := nsum_le n fun i hi => ht.top i k (by omega) hk
theorem rowS_le {w : Nat} {rs : List (List Nat)} (ht : okT w rs) {i : Nat} (hi : i < rs.length) {n : Nat} (hn : n ≤ w) : nsum (nth (nth rs i)) n ≤ n * 6000 := nsum_le n fun k hk => ht.top i k hi (by omega)
theorem allS_le {w : Nat} {rs : List (List Nat)} (ht : okT w rs) {n : Nat} (hn : n ≤ rs.length) : allS rs w n ≤ n * 24000 := nsum_le n fun i hi => by
  have := rowS_le ht (i := i) (by omega) (Nat.le_refl w)
  have := ht.cols
  omega
theorem pageB_full {w : Nat} {rs : List (List Nat)} (ht : okT w rs) : Full (w + 1) (pageB w rs) := by
  have hr := ht.rows
  have hc := ht.cols
  refine Full.of (by rw [pageB_len]; omega) (by omega) (fun i hi => ?_) (fun i k => nth (nth (pageN w rs) i) k) (fun i k hi hk => ?_) (fun i hi => ?_) fun k hk => ?_
  · rw [pageB_len] at hi
    rw [pageB_nth hi, dgs_len, pageN_wide ht hi]
  · rw [pageB_len] at hi
    have hw := pageN_wide ht hi
    refine ⟨?_, by rw [pageB_nth hi, dgs_nth (by omega)]⟩
    show nth (nth (pageN w rs) i) k < 100000
    by_cases e : i < rs.length
    · rw [pageN_lo e]
      by_cases e2 : k < w
      · rw [rowN_lo (ht.wide i e) e2]; have := ht.top i k e e2; omega
      · obtain rfl : k = w := by omega
        rw [rowN_hi (ht.wide i e)]; have := rowS_le ht e (Nat.le_refl k); omega
    · obtain rfl : i = rs.length := by omega
      rw [pageN_hi]
      by_cases e2 : k < w
      · rw [sumsN_lo e2]; have := colS_le ht e2 (Nat.le_refl _); omega
      · obtain rfl : k = w := by omega
        rw [sumsN_hi]; have := allS_le ht (Nat.le_refl _); omega
  · rw [pageB_len] at hi
    rw [Nat.add_sub_cancel]
    by_cases e : i < rs.length
    · rw [pageN_lo e, rowN_hi (ht.wide i e)]
      exact nsum_congr w fun k hk => rowN_lo (ht.wide i e) hk
    · obtain rfl : i = rs.length := by omega
      rw [pageN_hi, sumsN_hi]
      unfold allS
      rw [nsum_comm]
      exact nsum_congr w fun k hk => sumsN_lo hk
  · rw [pageB_len, Nat.add_sub_cancel, pageN_hi]
    by_cases e2 : k < w
    · rw [sumsN_lo e2]
      exact nsum_congr _ fun i hi => by rw [pageN_lo hi, rowN_lo (ht.wide i hi) e2]
    · obtain rfl : k = w := by omega
      rw [sumsN_hi]
      exact nsum_congr _ fun i hi => by rw [pageN_lo hi, rowN_hi (ht.wide i hi)]
/-- The sums within a row. -/
def midS (w : Nat) (rs : List (List Nat)) (r c : Nat) : List Nat := (List.range w).map (fun k => colS rs k (if k < c then r + 1 else r)) ++ [allS rs w r]
theorem midS_len (w : Nat) (rs : List (List Nat)) (r c : Nat) : (midS w rs r c).length = w + 1 := by simp [midS]
theorem midS_lo {w : Nat} {rs : List (List Nat)} {r c k : Nat} (h : k < w) : nth (midS w rs r c) k = colS rs k (if k < c then r + 1 else r) := by
  unfold midS
  rw [nth_append_left (by simpa using h), nth_map _ (by simpa using h)]
  simp [nth, List.getD_eq_getElem?_getD, h]
theorem midS_hi {w : Nat} {rs : List (List Nat)} {r c : Nat} : nth (midS w rs r c) w = allS rs w r := by
  unfold midS
  have := nth_last ((List.range w).map (fun k => colS rs k (if k < c then r + 1 else r))) (allS rs w r)
  rw [List.length_map, List.length_range] at this
  exact this
theorem midS_zero (w : Nat) (rs : List (List Nat)) (r : Nat) : midS w rs r 0 = sumsN w rs r := by simp [midS, sumsN]
theorem midS_step {w : Nat} {rs : List (List Nat)} {r c : Nat} (hc : c < w) : (midS w rs r c).set c (colS rs c r + nth (nth rs r) c) = midS w rs r (c + 1) := by
  refine list_eq (by rw [List.length_set, midS_len, midS_len]) fun k hk => ?_
  rw [List.length_set, midS_len] at hk
  rw [nth_set (by rw [midS_len]; omega)]
  by_cases e : k = c
  · subst e
    rw [if_pos rfl, midS_lo hc, if_pos (by omega)]
    rfl
  · rw [if_neg e]
    by_cases e2 : k < w
    · rw [midS_lo e2, midS_lo e2]
      congr 1
      by_cases e3 : k < c
      · rw [if_pos e3, if_pos (by omega)]
      · rw [if_neg e3, if_neg (by omega)]
    · obtain rfl : k = w := by omega
      rw [midS_hi, midS_hi]
theorem midS_end {w : Nat} {rs : List (List Nat)} {r : Nat} : (midS w rs r w).set w (allS rs w r + nsum (nth (nth rs r)) w) = sumsN w rs (r + 1) := by
  refine list_eq (by rw [List.length_set, midS_len, sumsN_len]) fun k hk => ?_
  rw [List.length_set, midS_len] at hk
  rw [nth_set (by rw [midS_len]; omega)]
  by_cases e : k = w
  · subst e
    rw [if_pos rfl, sumsN_hi]
    rfl
  · rw [if_neg e, midS_lo (by omega), if_pos (by omega), sumsN_lo (by omega)]
/-- Rows of numbers, as a value. -/
def castL (r : List Nat) : List Int := r.map fun n : Nat => (n : Int)
theorem castL_len (r : List Nat) : (castL r).length = r.length := by simp [castL]
theorem nth_cast (r : List Nat) (j : Nat) : nth (castL r) j = ((nth r j : Nat) : Int) := by
  unfold castL
  by_cases h : j < r.length
  · rw [nth_map _ h]
  · rw [nth_out (by simpa using h), nth_out (by omega)]; rfl
def vR (rs : List (List Nat)) : AV := vl (eRv (AV.int .i64)) false (rs.map fun r => (false, castL r))
@[simp] theorem aidx_vR (rs : List (List Nat)) (q : IntKind) (i : Int) : aidx 1 (vR rs) (.int q i) = if 0 ≤ i ∧ i < (rs.length : Int) then some (.vptr [vs false (castL (nth rs i.toNat))] 0) else none := by
  unfold vR
  rw [aidx_vl (e := eRv (AV.int .i64)) (fun _ => rfl) q i, List.length_map]
  by_cases h : 0 ≤ i ∧ i < (rs.length : Int)
  · rw [if_pos h, if_pos h, nth_map _ (by omega)]; rfl
  · rw [if_neg h, if_neg h]
@[simp] theorem alen_vR (rs : List (List Nat)) : alen (vR rs) = some (.int .i64 rs.length) := by unfold vR; rw [alen_vl, List.length_map]
@[simp] theorem closed_vR (rs : List (List Nat)) (k : Nat) : closed (k + 1) (vR rs) = true := rfl
@[simp] theorem isDef_vR (rs : List (List Nat)) : isDef (vR rs) = True := rfl
@[simp] theorem dfd_vR (rs : List (List Nat)) : (vR rs).dfd = true := rfl
@[simp] theorem cells_vR (rs : List (List Nat)) : (vR rs).cells = [vR rs] := rfl
@[simp] theorem one_vR (rs : List (List Nat)) : (vR rs).one = true := rfl
end Go.Oct.Log
