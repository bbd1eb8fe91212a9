/- The specification's cuts and spans. -/
import Derived.Test.YtcnemenlbbickaaORoundsSpcB
import Derived.Test.YtcnemenlbbickaaORoundsHol
set_option maxRecDepth 100000
set_option maxHeartbeats 8000000
set_option linter.unusedVariables false
set_option linter.unusedSimpArgs false
namespace Go.Oct.Rounds
open Go.Oct
section
variable {N : Nat} {C : List Bool} {A : List An}
theorem okNet_bd (hok : okNet N C A) : ∀ a ∈ A, 0 ≤ a.lo ∧ a.lo ≤ a.hi ∧ a.hi ≤ 648000 := fun a ha => by
  obtain ⟨j, hj, rfl⟩ := mem_nth.1 ha
  exact (hok.2.2.2.1 j hj).2.2
theorem okNet_cut (hok : okNet N C A) (P Q : List Int) : ∀ i, i ≤ A.length → (-648000 * 24 ≤ cLo (A.take i) P Q ∧ cLo (A.take i) P Q ≤ 648000 * 24) ∧ -648000 * 24 ≤ cHi (A.take i) P Q ∧ cHi (A.take i) P Q ≤ 648000 * 24 := fun i hi => by
  have := c_bd P Q (A.take i) fun a ha => okNet_bd hok a (List.mem_of_mem_take ha)
  have h2 : (A.take i).length ≤ 24 := by have h1 := hok.1; have h2 := hok.2.2.1; rw [List.length_take]; omega
  omega
theorem cutOf_ok (nC : Bool) (nA : Bool) (hok : okNet N C A) {tr st : Nat} (htr : tr < 2 ^ N) (hst : st < 2 ^ C.length) :
    ans prog O 61 [eNet N nC C nA A, .int .i64 (tr : Int), .int .i64 (st : Int)] = some (.agg [.int .i64 (mustP (pM tr N) (pM st C.length)), .int .i64 (cLo A (pM tr N) (pM st C.length)), .int .i64 (cHi A (pM tr N) (pM st C.length))]) := by
  have hN := hok.1
  have hC := hok.2.1
  have hA3 := hok.2.2.1
  have b1 := Bits_ok htr (by omega)
  have b2 := Bits_ok hst (by omega)
  have l1 := pM_len tr N
  have l2 := pM_len st C.length
  obtain ⟨P, hP⟩ : ∃ P, P = pM tr N := ⟨_, rfl⟩
  obtain ⟨Q, hQ⟩ : ∃ Q, Q = pM st C.length := ⟨_, rfl⟩
  have hsd : ∀ i, i < A.length → ans prog O 76 [.agg [.int .i64 (nth A i).t, .int .i64 (nth A i).s, .int .i64 (nth A i).lo, .int .i64 (nth A i).hi], .int .i64 (tr : Int), .int .i64 (st : Int)] = some (.int .i64 (sideP P Q (nth A i))) := fun i hi => by
    rw [hP, hQ]; exact side_ok (hok.2.2.2.1 i hi) (by omega) (by omega)
  rw [← hP] at b1 l1 ⊢
  rw [← hQ] at b2 l2 ⊢
  have hob := okNet_cut hok P Q
  refine fn_of' pl get61 (oo (by decide)) rfl rfl ?_
  have w1 : w64 (648000 * (P.length : Int)) = 648000 * P.length := w64_id _ (by omega) (by omega)
  have w2 : w64 (1296000 * (Q.length : Int)) = 1296000 * Q.length := w64_id _ (by omega) (by omega)
  have w3 : w64 (648000 * (P.length : Int) - 1296000 * Q.length) = mustP P Q := w64_id _ (by omega) (by omega)
  simp (disch := omega) [eNet, b1, b2, w1, w2, w3, Und, -Bool.exists_bool]
  refine lp_loop pl (fun k fr σ => ∃ i : Nat, k + i = A.length ∧ fr = ⟨[(1, .int .i64 (tr : Int)), (2, .int .i64 (st : Int)), (3, .ptr (some (0, 0))), (6, .ptr (some (1, 0))), (7, .ptr (some (2, 0))), (8, .int .i64 i)], []⟩ ∧ σ.lim = 0 ∧ 3 ≤ σ.next ∧
      σ.get 0 = some (.cells [.int .i64 N, vl AV.bool nC C, vl eAn nA A]) ∧ (∃ x y z, σ.get 1 = some (.cells [x, y, z])) ∧ σ.get 2 = some (.cells [.int .i64 (mustP P Q), .int .i64 (cLo (A.take i) P Q), .int .i64 (cHi (A.take i) P Q)]))
    ⟨A.length, 0, by omega, rfl, rfl, by simp, by simp, ⟨_, _, _, by simp; exact ⟨rfl, rfl, rfl⟩⟩, by simp; exact ⟨rfl, rfl, rfl⟩⟩ ?_
  rintro k _ σ ⟨i, hi, rfl, s0, sn, sg0, ⟨x1, y1, z1, sg1⟩, sg2⟩
  have l0 := AH.get_lt sg0
  have l1 := AH.get_lt sg1
  have l2 := AH.get_lt sg2
  by_cases hiA : i < A.length
  · have hiA' : (i : Int) < A.length := by omega
    have b0 := hob i (by omega)
    have b1 := hob (i + 1) (by omega)
    have b2 := okNet_bd hok (nth A i) (nth_mem hiA)
    have hs1 : cLo (A.take (i + 1)) P Q = cLo (A.take i) P Q + (if sideP P Q (nth A i) = 1 then (nth A i).lo else if sideP P Q (nth A i) = -1 then -(nth A i).hi else 0) := by
      rw [take_succ_nth hiA]; exact cLo_app _ _ _ _
    have hs2 : cHi (A.take (i + 1)) P Q = cHi (A.take i) P Q + (if sideP P Q (nth A i) = 1 then (nth A i).hi else if sideP P Q (nth A i) = -1 then -(nth A i).lo else 0) := by
      rw [take_succ_nth hiA]; exact cHi_app _ _ _ _
    have q0 : ¬ 0 = σ.next := by omega
    have q1 : ¬ 1 = σ.next := by omega
    have q2 : ¬ 2 = σ.next := by omega
    have l3 : 2 < σ.next + 1 := by omega
    have hsi := hsd i hiA
    rcases sideP_cases P Q (nth A i) with e | e | e
    all_goals
      rw [e] at hsi
      simp [e] at hs1 hs2
      simp (disch := omega) [Und, eqf1, eqf2, s0, sg0, sg1, sg2, l0, l1, l2, q0, q1, q2, hiA', hsi, -Bool.exists_bool, -Check_ok]
      refine ⟨k - 1, by omega, i + 1, by omega, by omega, by omega, ?_⟩
      try rw [hs1, hs2]
      simp (disch := omega) [sg2, l3, Int.sub_eq_add_neg]
  · obtain rfl : i = A.length := by omega
    rw [List.take_length] at sg2
    have l2' : 2 < σ.next := l2
    simp (disch := omega) [Und, eqf1, eqf2, s0, sg0, sg1, sg2, l0, l1, l2, -Bool.exists_bool, -Check_ok]
end
end Go.Oct.Rounds
