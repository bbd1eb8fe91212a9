/- The page of numbers with all sums, plain. -/
import Derived.Test.YtddkghgfbhhcdaaGreatDoorOStkSoaP
set_option maxRecDepth 100000
set_option maxHeartbeats 4000000
set_option linter.unusedVariables false
set_option linter.unusedSimpArgs false
namespace Go.Oct.Stk
open Go.Oct
def dgs (r : List Nat) : List (List Int) := r.map dg
/-- A table that can be written down. -/
structure okT (w : Nat) (rs : List (List Nat)) : Prop where
  rows : 1 ≤ rs.length ∧ rs.length ≤ 4
  cols : 1 ≤ w ∧ w ≤ 4
  wide : ∀ i, i < rs.length → (nth rs i).length = w
  top : ∀ i k, i < rs.length → k < w → nth (nth rs i) k ≤ 6000
theorem nth_out {α : Type} [Inhabited α] {l : List α} {j : Nat} (h : l.length ≤ j) : nth l j = default := by simp [nth, List.getD_eq_getElem?_getD, List.getElem?_eq_none h]
theorem dgs_len (r : List Nat) : (dgs r).length = r.length := by simp [dgs]
theorem dgs_nth {r : List Nat} {k : Nat} (h : k < r.length) : nth (dgs r) k = dg (nth r k) := nth_map _ h
/-- Rows of numbers, as a value. -/
def castL (r : List Nat) : List Int := r.map fun n : Nat => (n : Int)
theorem castL_len (r : List Nat) : (castL r).length = r.length := by simp [castL]
theorem nth_cast (r : List Nat) (j : Nat) : nth (castL r) j = ((nth r j : Nat) : Int) := by
  unfold castL
  by_cases h : j < r.length
  · rw [nth_map _ h]
  · rw [nth_out (by simpa using h), nth_out (by omega)]; rfl
def vR (rs : List (List Nat)) : AV := vl (eRv (AV.int .i64)) false (rs.map fun r => (false, castL r))
@[simp] theorem aidx_vR (rs : List (List Nat)) (q : IntKind) (i : Int) : aidx 1 (vR rs) (.int q i) = if 0 ≤ i ∧ i < (rs.length : Int) then some (.vptr [vs false (castL (nth rs i.toNat))] 0) else none := by
  unfold vR
  rw [aidx_vl (e := eRv (AV.int .i64)) (fun _ => rfl) q i, List.length_map]
  by_cases h : 0 ≤ i ∧ i < (rs.length : Int)
  · rw [if_pos h, if_pos h, nth_map _ (by omega)]; rfl
  · rw [if_neg h, if_neg h]
@[simp] theorem alen_vR (rs : List (List Nat)) : alen (vR rs) = some (.int .i64 rs.length) := by unfold vR; rw [alen_vl, List.length_map]
@[simp] theorem closed_vR (rs : List (List Nat)) (k : Nat) : closed (k + 1) (vR rs) = true := rfl
@[simp] theorem isDef_vR (rs : List (List Nat)) : isDef (vR rs) = True := rfl
@[simp] theorem dfd_vR (rs : List (List Nat)) : (vR rs).dfd = true := rfl
@[simp] theorem cells_vR (rs : List (List Nat)) : (vR rs).cells = [vR rs] := rfl
@[simp] theorem one_vR (rs : List (List Nat)) : (vR rs).one = true := rfl
end Go.Oct.Stk
