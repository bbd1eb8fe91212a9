/- RoundsEither: it answers true at all arguments. -/
import Derived.Test.YtcnemenlbbickaaORoundsClo
import Derived.Test.YtcnemenlbbickaaORoundsHol
import Derived.Test.YtcnemenlbbickaaORoundsEndL
set_option maxRecDepth 100000
set_option maxHeartbeats 8000000
set_option linter.unusedVariables false
set_option linter.unusedSimpArgs false
namespace Go.Oct.Rounds
open Go.Oct
theorem place_has (xs : List Int) (n : Int) : decide (0 ≤ place xs n) = xs.contains n := by
  rw [Bool.eq_iff_iff]
  simp only [decide_eq_true_eq, List.contains_iff_mem]
  unfold place pfrom
  rw [List.drop_zero]
  by_cases h : n ∈ xs
  · rw [if_pos h]; simp [h]
  · rw [if_neg h]; simp [h]
theorem cannot_ok {N : Nat} (nC : Bool) {C : List Bool} (nA : Bool) {A : List An} (hok : okNet N C A) (nP nQ : Bool) (P Q : List Int) (small : Bool) (hP : P.length ≤ 8) (hQ : Q.length ≤ 8) :
    ans prog O 42 [eNet N nC C nA A, .agg [vs nP P, vs nQ Q, .bool small]] = some (.bool (decide (hold A P Q small))) := by
  have hN := hok.1
  have hA3 := hok.2.2.1
  have hbdA : ∀ a ∈ A, 0 ≤ a.lo ∧ a.lo ≤ a.hi ∧ a.hi ≤ 648000 := fun a ha => by
    obtain ⟨j, hj, rfl⟩ := mem_nth.1 ha
    exact (hok.2.2.2.1 j hj).2.2
  have hob : ∀ i, i ≤ A.length → (-648000 * 24 ≤ cLo (A.take i) P Q ∧ cLo (A.take i) P Q ≤ 648000 * 24) ∧ -648000 * 24 ≤ cHi (A.take i) P Q ∧ cHi (A.take i) P Q ≤ 648000 * 24 := fun i hi => by
    have := c_bd P Q (A.take i) fun a ha => hbdA a (List.mem_of_mem_take ha)
    have h2 : (A.take i).length ≤ 24 := by rw [List.length_take]; omega
    omega
  refine fn_of' pl get42 (oo (by decide)) rfl rfl ?_
  have w1 : w64 (648000 * (P.length : Int)) = 648000 * P.length := w64_id _ (by omega) (by omega)
  have w2 : w64 (1296000 * (Q.length : Int)) = 1296000 * Q.length := w64_id _ (by omega) (by omega)
  have w3 : w64 (648000 * (P.length : Int) - 1296000 * Q.length) = mustP P Q := w64_id _ (by omega) (by omega)
  simp (disch := omega) [eNet, w1, w2, w3, -Bool.exists_bool]
  refine lp_loop pl (fun k fr σ => ∃ i : Nat, k + i = A.length ∧ fr = ⟨[(2, .ptr (some (0, 0))), (3, .ptr (some (1, 0))), (5, .int .i64 (mustP P Q)), (6, .int .i64 (cLo (A.take i) P Q)), (7, .int .i64 (cHi (A.take i) P Q)), (8, .int .i64 i)], []⟩ ∧ σ.lim = 0 ∧ 2 ≤ σ.next ∧
      σ.get 0 = some (.cells [.int .i64 N, vl AV.bool nC C, vl eAn nA A]) ∧ σ.get 1 = some (.cells [vs nP P, vs nQ Q, .bool small]))
    ⟨A.length, 0, by omega, rfl, rfl, by simp, by simp, by simp⟩ ?_
  rintro k _ σ ⟨i, hi, rfl, s0, sn, sg0, sg1⟩
  have l0 := AH.get_lt sg0
  have l1 := AH.get_lt sg1
  by_cases hiA : i < A.length
  · have hiA' : (i : Int) < A.length := by omega
    have b0 := hob i (by omega)
    have b1 := hob (i + 1) (by omega)
    have b2 := hbdA (nth A i) (nth_mem hiA)
    have hs1 : cLo (A.take (i + 1)) P Q = cLo (A.take i) P Q + (if sideP P Q (nth A i) = 1 then (nth A i).lo else if sideP P Q (nth A i) = -1 then -(nth A i).hi else 0) := by
      rw [take_succ_nth hiA]; exact cLo_app _ _ _ _
    have hs2 : cHi (A.take (i + 1)) P Q = cHi (A.take i) P Q + (if sideP P Q (nth A i) = 1 then (nth A i).hi else if sideP P Q (nth A i) = -1 then -(nth A i).lo else 0) := by
      rw [take_succ_nth hiA]; exact cHi_app _ _ _ _
    have q0 : ¬ 0 = σ.next := by omega
    have q1 : ¬ 1 = σ.next := by omega
    have p1 := place_has P (nth A i).t
    have p2 := place_has Q (nth A i).s
    unfold sideP at hs1 hs2
    cases hp1 : P.contains (nth A i).t <;> cases hq1 : Q.contains (nth A i).s
    all_goals
      rw [hp1] at p1 hs1 hs2
      rw [hq1] at p2 hs1 hs2
      simp at hs1 hs2
      first | replace p1 := of_decide_eq_true p1 | replace p1 := of_decide_eq_false p1
      first | replace p2 := of_decide_eq_true p2 | replace p2 := of_decide_eq_false p2
      simp (disch := omega) [Und, eqf1, eqf2, s0, sg0, sg1, l0, l1, q0, q1, hiA', p1, p2, -Bool.exists_bool, -Check_ok]
      exact ⟨k - 1, by omega, i + 1, by omega, ⟨by omega, by omega, by omega⟩, by omega⟩
  · obtain rfl : i = A.length := by omega
    rw [List.take_length]
    cases small
    all_goals
      simp (disch := omega) [Und, eqf1, eqf2, s0, sg0, sg1, l0, l1, -Bool.exists_bool, -Check_ok]
      try simp [hold]
theorem rise_len {l : List Int} {n : Nat} (h : rise l n) : l.length ≤ n := by
  have := sel_len (fun k => l.contains (k : Int)) n
  rw [← rise_sel n l h] at this
  exact this
theorem RoundsEither_law (T : Int) (nC nA : Bool) (C : List Bool) (A : List An) (nH : Bool) (H : List Int) (nP nQ : Bool) (P Q : List Int) (small : Bool) (hC : C.length < 2 ^ 62) (hA : A.length < 2 ^ 62) (hH : H.length < 2 ^ 62) (hP : P.length < 2 ^ 62) (hQ : Q.length < 2 ^ 62) :
    ans prog O 11 [eNet T nC C nA A, vs nH H, .agg [vs nP P, vs nQ Q, .bool small]] = some (.bool true) := by
  refine fn_of' pl get11 (oo (by decide)) rfl rfl ?_
  obtain ⟨v, hv, hsm⟩ := Some_ok T nC C nA A hC hA
  obtain ⟨w, hw, hpr⟩ := Proof_ok T nC C nA A hC hA
  have hso := sound_ok T nC C nA A hC hA
  have hck := Check_ok T nC C nA A hC hA
  unfold eNet at hsm hpr hso hck
  by_cases hok : okNet T C A
  · obtain ⟨N, rfl⟩ : ∃ N : Nat, T = N := ⟨T.toNat, by have := hok.1; omega⟩
    have hN := hok.1
    have hC8 := hok.2.1
    have hA3 := hok.2.2.1
    have hcl := pCloses_ok N nC C nA A nH H hC hA hH
    have hho := pHolds_ok N nC C nA A nP nQ P Q small hC hA hP hQ
    have hcD := fun nl (h : List Int) (hh : h.length < 2 ^ 62) => closes_ok (N := N) nC nA hok nl h hh
    have hcn := fun a b P' Q' s (h1 : P'.length ≤ 8) (h2 : Q'.length ≤ 8) => cannot_ok (N := N) nC nA hok a b P' Q' s h1 h2
    have pl8 : ∀ P' Q', okPf N C P' Q' → P'.length ≤ 8 ∧ Q'.length ≤ 8 := fun P' Q' hp => by
      have h1 := rise_len hp.1
      have h2 := rise_len (n := C.length) hp.2.1
      omega
    rw [if_pos hok] at hcl hho
    cases hv with
    | bad h => exact absurd hok h
    | none _ hpd =>
      cases hw with
      | bad h => exact absurd hok h
      | none h _ hc => exact absurd hpd (not_proved hok hc)
      | ok a b P' Q' s' _ hp hh =>
        have hnc : ¬ clD N C A H := fun h => not_proved hok ((clD_iff hok).1 h) hpd
        obtain ⟨q1, q2⟩ := pl8 P' Q' hp
        have hc1 := hcn a b P' Q' s' q1 q2
        have hh2 := pHolds_ok N nC C nA A a b P' Q' s' hC hA (by omega) (by omega)
        rw [if_pos hok, if_pos hp, decide_eq_true hh] at hh2
        rw [decide_eq_true hh] at hc1
        rw [decide_eq_false hnc] at hcl
        by_cases hl : H.length = A.length
        · rw [if_pos hl] at hcl
          by_cases hp2 : okPf N C P Q
          · rw [if_pos hp2] at hho
            obtain ⟨q3, q4⟩ := pl8 P Q hp2
            have hc2 := hcn nP nQ P Q small q3 q4
            unfold eNet at hcl hho hh2 hc1 hc2
            simp (disch := omega) [eNet, hsm, hpr, hso, hck, hcl, hho, hh2, hc1, hc2, hok, Und, -Bool.exists_bool, -Check_ok]
          · rw [if_neg hp2] at hho
            unfold eNet at hcl hho hh2 hc1
            simp (disch := omega) [eNet, hsm, hpr, hso, hck, hcl, hho, hh2, hc1, hok, Und, -Bool.exists_bool, -Check_ok]
        · rw [if_neg hl] at hcl
          by_cases hp2 : okPf N C P Q
          · rw [if_pos hp2] at hho
            obtain ⟨q3, q4⟩ := pl8 P Q hp2
            have hc2 := hcn nP nQ P Q small q3 q4
            unfold eNet at hcl hho hh2 hc1 hc2
            simp (disch := omega) [eNet, hsm, hpr, hso, hck, hcl, hho, hh2, hc1, hc2, hok, Und, -Bool.exists_bool, -Check_ok]
          · rw [if_neg hp2] at hho
            unfold eNet at hcl hho hh2 hc1
            simp (disch := omega) [eNet, hsm, hpr, hso, hck, hcl, hho, hh2, hc1, hok, Und, -Bool.exists_bool, -Check_ok]
    | ok h' _ hc' =>
      have hnp := not_proved hok hc'
      cases hw with
      | bad h => exact absurd hok h
      | ok a b P' Q' s' _ hp hh => exact absurd ⟨P', Q', s', hp, hh⟩ hnp
      | none h _ hc =>
        have hl' := (inA_iff.2 hc'.1).1
        have hc1 := pCloses_ok N nC C nA A false h' hC hA (by omega)
        have hd1 := hcD false h' (by omega)
        have hyes := decide_eq_true ((clD_iff hok).2 hc')
        rw [if_pos hok, if_pos hl', hyes] at hc1
        rw [hyes] at hd1
        have hd2 := hcD nH H hH
        have hho2 : ∃ c : Int, ans prog O 20 [eNet N nC C nA A, .agg [vs nP P, vs nQ Q, .bool small]] = some (.tuple [.bool false, .int .i64 c]) := by
          by_cases hp2 : okPf N C P Q
          · rw [if_pos hp2, decide_eq_false (fun h => hnp ⟨P, Q, small, hp2, h⟩)] at hho
            exact ⟨0, hho⟩
          · rw [if_neg hp2] at hho
            exact ⟨61, hho⟩
        obtain ⟨c, hho2⟩ := hho2
        by_cases hl : H.length = A.length
        · rw [if_pos hl] at hcl
          unfold eNet at hcl hho2 hc1 hd1 hd2
          simp (disch := omega) [eNet, hsm, hpr, hso, hck, hcl, hho2, hc1, hd1, hd2, hok, Und, -Bool.exists_bool, -Check_ok]
        · rw [if_neg hl] at hcl
          unfold eNet at hcl hho2 hc1 hd1 hd2
          simp (disch := omega) [eNet, hsm, hpr, hso, hck, hcl, hho2, hc1, hd1, hd2, hok, Und, -Bool.exists_bool, -Check_ok]
  · cases hv with
    | none h _ => exact absurd h hok
    | ok _ h _ => exact absurd h hok
    | bad _ =>
      cases hw with
      | none _ h _ => exact absurd h hok
      | ok _ _ _ _ _ h _ _ => exact absurd h hok
      | bad _ =>
        rw [if_neg hok] at hck
        simp (disch := omega) [eNet, hsm, hpr, hso, hck, hok, Und, -Bool.exists_bool, -Check_ok]
theorem RoundsEither_ok (T : Int) (nC nA : Bool) (C : List Bool) (A : List An) (nH : Bool) (H : List Int) (nP nQ : Bool) (P Q : List Int) (small : Bool) (hT : i64 T) {x y z u v : AV} (hC : Slice AV.bool (fun _ => True) x nC C) (hA : Slice eAn anOK y nA A) (hH : Slice (AV.int .i64) i64 z nH H) (hP : Slice (AV.int .i64) i64 u nP P) (hQ : Slice (AV.int .i64) i64 v nQ Q) :
    ans prog O 11 [.agg [.int .i64 T, vl AV.bool nC C, vl eAn nA A], vs nH H, .agg [vs nP P, vs nQ Q, .bool small]] = some (.bool true) := by
  have h1 := hC.len
  have h2 := hA.len
  have h3 := hH.len
  have h4 := hP.len
  have h5 := hQ.len
  exact RoundsEither_law T nC nA C A nH H nP nQ P Q small (by omega) (by omega) (by omega) (by omega) (by omega)
end Go.Oct.Rounds
