/- The page of a law: written down, wet, and read. -/
import Derived.Test.YtddkghgfbhhcdaaGreatDoorOStkPagP
import Derived.Test.YtddkghgfbhhcdaaGreatDoorOStkSnp
set_option maxRecDepth 100000
set_option maxHeartbeats 8000000
set_option linter.unusedVariables false
set_option linter.unusedSimpArgs false
namespace Go.Oct.Stk
open Go.Oct
theorem Read_ok (n : Nat) (hn : n < 100000) : ans prog O 21 [eT (dg n), .int .i64 5] = some (.tuple [.int .i64 n, .bool true]) := by
  have hb := bys_strA (dg_digs n).byt
  have l1 := dg_ne n
  have l2 := dg_len 4 n hn
  have hv := val_dg n
  have hd := dg_digs n
  have h0 := dg_lead n
  generalize dg n = L at *
  refine fn_of' pl get21 (oo (by decide)) rfl rfl ?_
  have h2 : (1 : Int) ≤ L.length := by omega
  have h3 : (L.length : Int) ≤ 5 := by omega
  by_cases h1 : 1 < L.length
  all_goals
    have h4 : ((1 : Int) < L.length) = (1 < L.length) := by simp; omega
    have h5 : 0 < L.length := by omega
    simp (disch := omega) [Und, eT, hb, h2, h3, h4, h5, h1, h0, -Bool.exists_bool]
    refine lp_count pl L.length (fun j => [(0, .str (strA L)), (6, .int .i64 (val (L.take j))), (7, .int .i64 j)]) (fun _ => (⟨0, 0, .leaf⟩ : AH)) (fun _ => True) (by simp [val]) ?_
    intro j hj _
    by_cases hjl : j < L.length
    · have hjd := hd _ (nth_mem hjl)
      have hjl' : (j : Int) < L.length := by omega
      have hvt := val_take hjl
      have hvb := val_bd (hd.take j) (by simp; omega)
      have q1 : 0 ≤ nth L j - 48 := by omega
      have q2 : nth L j - 48 ≤ 9 := by omega
      simp (disch := omega) [Und, hb, hjl, hjl', hvt, q1, q2, -Bool.exists_bool]
      try omega
    · obtain rfl : j = L.length := by omega
      have e : L.take L.length = L := List.take_length
      simp (disch := omega) [Und, hb, e, hv, -Bool.exists_bool]
end Go.Oct.Stk
