/- Nets: Holds of the program. -/
import Derived.Test.YtddkghgfbhhcdaaOTriLw
set_option maxRecDepth 100000
set_option maxHeartbeats 8000000
set_option linter.unusedVariables false
set_option linter.unusedSimpArgs false
namespace Go.Oct.Tri
open Go.Oct
/-- The first numbers rise. -/
def riseTo (l : List Int) (n : Int) (i : Nat) : Prop := ∀ j, j < i → (if j = 0 then -1 else nth l (j - 1)) < nth l j ∧ nth l j < n
def lastTo (l : List Int) (i : Nat) : Int := if i = 0 then -1 else nth l (i - 1)
theorem rises_ok (nl : Bool) (l : List Int) (n : Int) (hl : l.length < 2 ^ 62) : ans prog O 51 [vs nl l, .int .i64 n] = some (.bool (decide (rise l n))) := by
  refine fn_of' pl get51 (oo (by decide)) rfl rfl ?_
  simp (disch := omega) [-Bool.exists_bool]
  refine lp_loop pl (fun k fr σ => ∃ i : Nat, k + i = l.length ∧ fr = ⟨[(1, .int .i64 n), (5, .int .i64 (lastTo l i)), (8, vs nl l), (9, .int .i64 l.length), (10, .int .i64 i)], []⟩ ∧ σ.lim = 0 ∧ riseTo l n i)
    ⟨l.length, 0, by omega, rfl, rfl, fun j hj => by omega⟩ ?_
  rintro k _ σ ⟨i, hi, rfl, s0, hr⟩
  by_cases hil : i < l.length
  · have hil' : (i : Int) < l.length := by omega
    by_cases h1 : nth l i ≤ lastTo l i
    · have hno : ¬ rise l n := fun h => by
        have := (h i hil).1
        unfold lastTo at h1
        omega
      simp (disch := omega) [Und, s0, hil', h1, hno, -Bool.exists_bool]
    · by_cases h2 : n ≤ nth l i
      · have hno : ¬ rise l n := fun h => by
          have := (h i hil).2
          omega
        simp (disch := omega) [Und, s0, hil', h1, h2, hno, -Bool.exists_bool]
      · simp (disch := omega) [Und, s0, hil', h1, h2, -Bool.exists_bool]
        refine ⟨k - 1, by omega, i + 1, by omega, ⟨rfl, by omega⟩, fun j hj => ?_⟩
        by_cases e : j = i
        · subst e
          unfold lastTo at h1
          omega
        · exact hr j (by omega)
  · obtain rfl : i = l.length := by omega
    have hyes : rise l n := hr
    simp (disch := omega) [Und, s0, hyes, -Bool.exists_bool]
theorem Contains_ok (nl : Bool) (xs : List Int) (x : Int) (hx : xs.length ≤ 1000) : ans prog O 55 [vs nl xs, .int .i64 x] = some (.bool (xs.contains x)) := by
  obtain ⟨_, ⟨r, rfl, hr⟩, hi⟩ : ∃ v, (∃ r : Int, v = .int .i64 r ∧ (0 ≤ r ↔ x ∈ xs)) ∧ ans prog O 109 [vs nl xs, .int .i64 x] = some v := by
    refine fn_ex pl _ get109 (oo (by decide)) rfl rfl ?_
    simp (disch := omega) [-Bool.exists_bool]
    refine lp_loop pl (fun k fr σ => ∃ j : Nat, j + k = xs.length ∧ (∀ q, q < j → nth xs q ≠ x) ∧ fr = ⟨[(0, vs nl xs), (1, .int .i64 x), (7, .int .i64 xs.length), (8, .int .i64 j)], []⟩) ⟨xs.length, 0, by omega, fun q hq => by omega, rfl⟩ ?_
    rintro k _ σ ⟨j, hj, hjq, rfl⟩
    by_cases hjl : j < xs.length
    · by_cases e : x = nth xs j
      · simp (disch := omega) [Und, hjl, e, -Bool.exists_bool]
        exact nth_mem hjl
      · simp (disch := omega) [Und, hjl, e, -Bool.exists_bool]
        exact ⟨k - 1, by omega, j + 1, by omega, fun q hq => by
          by_cases e2 : q = j
          · subst e2; exact fun h => e h.symm
          · exact hjq q (by omega), by omega⟩
    · obtain rfl : j = xs.length := by omega
      have hn : x ∉ xs := fun h => by
        obtain ⟨q, h1, h2⟩ := mem_nth.1 h
        exact hjq q h1 h2
      simp (disch := omega) [Und, hn, -Bool.exists_bool]
  refine fn_of' pl get55 (oo (by decide)) rfl rfl ?_
  simp (disch := omega) [hi, hr]
@[simp] theorem least_ok (a b : Int) : ans prog O 108 [.agg [.int .i64 a, .int .i64 b]] = some (.int .i64 a) := by
  refine fn_of' pl get108 (oo (by decide)) rfl rfl ?_
  simp (disch := omega) [-Bool.exists_bool]
@[simp] theorem most_ok (a b : Int) : ans prog O 107 [.agg [.int .i64 a, .int .i64 b]] = some (.int .i64 b) := by
  refine fn_of' pl get107 (oo (by decide)) rfl rfl ?_
  simp (disch := omega) [-Bool.exists_bool]
@[simp] theorem proved_ok (s : Bool) : ans prog O 54 [.bool s] = some (.agg [.func (.func (bif s then 107 else 108)) [] [], .func (.func (bif s then 108 else 107)) [] []]) := by
  refine fn_of' pl get54 (oo (by decide)) rfl rfl ?_
  cases s <;> simp (disch := omega) [Und, -Bool.exists_bool]
theorem holds2_ok (T : Int) (nC : Bool) (C : List Bool) (nA : Bool) (A : List An) {s : Int} (h0 : 0 ≤ s) (h1 : s < C.length) : ans prog O 53 [.int .i64 s, .vptr [.int .i64 T, vl AV.bool nC C, vl eAn nA A] 0] = some (.bool (!nth C s.toNat)) := by
  refine fn_of' pl get53 (oo (by decide)) rfl rfl ?_
  simp (disch := omega) [h0, h1, -Bool.exists_bool]
/-- What a proof says of the angles, as the program adds it up. -/
def offTo (small : Bool) (A : List An) (P Q : List Int) : Int := bif small then cHi A P Q else cLo A P Q
theorem cHi_app (A : List An) (a : An) (P Q : List Int) : cHi (A ++ [a]) P Q = cHi A P Q + (if sideP P Q a = 1 then a.hi else if sideP P Q a = -1 then -a.lo else 0) := by
  unfold cHi
  induction A with
  | nil => simp
  | cons b A ih => simp only [List.cons_append, List.foldr_cons, ih]; omega
theorem cLo_app (A : List An) (a : An) (P Q : List Int) : cLo (A ++ [a]) P Q = cLo A P Q + (if sideP P Q a = 1 then a.lo else if sideP P Q a = -1 then -a.hi else 0) := by
  unfold cLo
  induction A with
  | nil => simp
  | cons b A ih => simp only [List.cons_append, List.foldr_cons, ih]; omega
theorem c_bd (P Q : List Int) : ∀ A : List An, (∀ a ∈ A, 0 ≤ a.lo ∧ a.lo ≤ a.hi ∧ a.hi ≤ 648000) → (-648000 * (A.length : Int) ≤ cHi A P Q ∧ cHi A P Q ≤ 648000 * A.length) ∧ -648000 * (A.length : Int) ≤ cLo A P Q ∧ cLo A P Q ≤ 648000 * A.length
  | [], _ => by simp [cHi, cLo]
  | a :: A, h => by
    have ih := c_bd P Q A fun b hb => h b (List.mem_cons_of_mem _ hb)
    have h0 := h a (List.mem_cons_self ..)
    have e1 : cHi (a :: A) P Q = (if sideP P Q a = 1 then a.hi else if sideP P Q a = -1 then -a.lo else 0) + cHi A P Q := rfl
    have e2 : cLo (a :: A) P Q = (if sideP P Q a = 1 then a.lo else if sideP P Q a = -1 then -a.hi else 0) + cLo A P Q := rfl
    rw [e1, e2, List.length_cons]
    have hs : (if sideP P Q a = 1 then a.hi else if sideP P Q a = -1 then -a.lo else 0) ≤ 648000 ∧ -648000 ≤ (if sideP P Q a = 1 then a.hi else if sideP P Q a = -1 then -a.lo else 0) := by split <;> (try split) <;> omega
    have hs2 : (if sideP P Q a = 1 then a.lo else if sideP P Q a = -1 then -a.hi else 0) ≤ 648000 ∧ -648000 ≤ (if sideP P Q a = 1 then a.lo else if sideP P Q a = -1 then -a.hi else 0) := by split <;> (try split) <;> omega
    omega
theorem pHolds_ok (T : Int) (nC : Bool) (C : List Bool) (nA : Bool) (A : List An) (nP nQ : Bool) (P Q : List Int) (small : Bool) (hC : C.length < 2 ^ 62) (hA : A.length < 2 ^ 62) (hP : P.length < 2 ^ 62) (hQ : Q.length < 2 ^ 62) :
    ans prog O 21 [eNet T nC C nA A, .agg [vs nP P, vs nQ Q, .bool small]] = some (if okNet T C A then (if okPf T C P Q then .tuple [.bool (decide (hold A P Q small)), .int .i64 0] else .tuple [.bool false, .int .i64 61]) else .tuple [.bool false, .int .i64 60]) := by
  have hck := Check_ok T nC C nA A hC hA
  unfold eNet at hck
  have r1 := rises_ok nP P T hP
  have r2 := rises_ok nQ Q C.length hQ
  by_cases hok : okNet T C A
  · have hN := hok.1
    have hC8 := hok.2.1
    have hA3 := hok.2.2.1
    rw [if_pos hok] at hck ⊢
    by_cases c1 : rise P T
    · by_cases c2 : rise Q C.length
      · by_cases c3 : ∀ i, i < Q.length → nth C (nth Q i).toNat = true
        · have hpf : okPf T C P Q := ⟨c1, c2, c3⟩
          rw [if_pos hpf]
          refine fn_of' pl get21 (oo (by decide)) rfl rfl ?_
          simp (disch := omega) [eNet, hck, r1, r2, c1, c2, Und, -Bool.exists_bool, -Check_ok]
          have hcf := ContainsFuncI_ok nQ Q hQ 53 [] [.vptr [.int .i64 T, vl AV.bool nC C, vl eAn nA A] 0] (by decide) rfl rfl rfl rfl (fun x => !nth C x.toNat) (fun j hj => holds2_ok T nC C nA A (rise_ge c2 j hj) (c2 j hj).2)
          have hex : ¬ ∃ j, j < Q.length ∧ (!nth C (nth Q j).toNat) = true := by
            rintro ⟨j, hj, h⟩
            rw [c3 j hj] at h; simp at h
          rw [decide_eq_false hex] at hcf
          refine pc_scal (.cons (Snap.vl _ _ nQ Q) (.cons (SnapK.func .nil (.cons (SnapK.ptr (cs := [.int .i64 T, vl AV.bool nC C, vl eAn nA A]) (by simp) (.cons (SnapK.int _ _ _ _) (.cons (SnapK.vl _ _ _ nC C) (.cons (SnapK.vl _ _ _ nA A) .nil)))) .nil)).snap .nil)) (fun h => by cases h) (by simp) (oo (args := []) (by decide)).1 hcf rfl ?_
          simp (disch := omega) [Und, -Bool.exists_bool, -Check_ok]
          have hPl : P.length ≤ 8 := by
            obtain ⟨n, rfl⟩ : ∃ n : Nat, T = n := ⟨T.toNat, by omega⟩
            have := sel_len (fun k => P.contains (k : Int)) n
            rw [← rise_sel n P c1] at this; omega
          have hQl : Q.length ≤ 8 := by
            have := sel_len (fun k => Q.contains (k : Int)) C.length
            rw [← rise_sel C.length Q c2] at this; omega
          have hbdA : ∀ a ∈ A, 0 ≤ a.lo ∧ a.lo ≤ a.hi ∧ a.hi ≤ 648000 := fun a ha => by
            obtain ⟨j, hj, rfl⟩ := mem_nth.1 ha
            exact (hok.2.2.2.1 j hj).2.2
          have hob : ∀ i, i ≤ A.length → -648000 * 24 ≤ offTo small (A.take i) P Q ∧ offTo small (A.take i) P Q ≤ 648000 * 24 := fun i hi => by
            have := c_bd P Q (A.take i) fun a ha => hbdA a (List.mem_of_mem_take ha)
            have h2 : (A.take i).length ≤ 24 := by rw [List.length_take]; omega
            unfold offTo
            cases small <;> simp <;> omega
          refine lp_loop pl (fun k fr σ => ∃ i : Nat, k + i = A.length ∧ fr = ⟨[(3, .ptr (some (1, 0))), (8, .ptr (some (2, 0))), (9, .int .i64 (offTo small (A.take i) P Q)), (47, vl eAn nA A), (48, .int .i64 A.length), (49, .int .i64 i)], []⟩ ∧ σ.lim = 0 ∧ 3 ≤ σ.next ∧
              σ.get 1 = some (.cells [vs nP P, vs nQ Q, .bool small]) ∧ σ.get 2 = some (.cells [.func (.func (bif small then 107 else 108)) [] [], .func (.func (bif small then 108 else 107)) [] []]))
            ⟨A.length, 0, by omega, by unfold offTo cHi cLo; cases small <;> rfl, rfl, by simp, by simp, by simp⟩ ?_
          rintro k _ σ ⟨i, hi, rfl, s0, sn, sg1, sg2⟩
          have l1 := AH.get_lt sg1
          have l2 := AH.get_lt sg2
          by_cases hiA : i < A.length
          · have hiA' : (i : Int) < A.length := by omega
            have k1 := Contains_ok nP P (nth A i).t (by omega)
            have k2 := Contains_ok nQ Q (nth A i).s (by omega)
            have b0 := hob i (by omega)
            have b1 := hob (i + 1) (by omega)
            have b2 := hbdA (nth A i) (nth_mem hiA)
            have hstep : offTo small (A.take (i + 1)) P Q = offTo small (A.take i) P Q + bif small then (if sideP P Q (nth A i) = 1 then (nth A i).hi else if sideP P Q (nth A i) = -1 then -(nth A i).lo else 0) else (if sideP P Q (nth A i) = 1 then (nth A i).lo else if sideP P Q (nth A i) = -1 then -(nth A i).hi else 0) := by
              unfold offTo
              rw [take_succ_nth hiA]
              cases small
              · exact cLo_app _ _ _ _
              · exact cHi_app _ _ _ _
            unfold sideP at hstep
            cases hp1 : P.contains (nth A i).t <;> cases hq1 : Q.contains (nth A i).s <;> cases small
            all_goals
              rw [hp1] at k1 hstep
              rw [hq1] at k2 hstep
              simp at hstep
              simp only [cond_true, cond_false] at sg2
              simp (disch := omega) [Und, eqf1, eqf2, s0, sg1, sg2, l1, l2, hiA', k1, k2, -Bool.exists_bool, -Check_ok]
              exact ⟨by omega, k - 1, by omega, i + 1, by omega, ⟨by omega, by omega⟩, by omega⟩
          · obtain rfl : i = A.length := by omega
            have w1 : w64 ((P.length : Int) * 648000) = P.length * 648000 := w64_id _ (by omega) (by omega)
            have w2 : w64 ((Q.length : Int) * 1296000) = Q.length * 1296000 := w64_id _ (by omega) (by omega)
            have w3 : w64 ((P.length : Int) * 648000 - Q.length * 1296000) = mustP P Q := by
              rw [w64_id _ (by omega) (by omega)]; unfold mustP; omega
            rw [List.take_length]
            have hm : (P.length : Int) * 648000 - Q.length * 1296000 = mustP P Q := by unfold mustP; omega
            cases small
            all_goals
              simp only [cond_true, cond_false] at sg2
              simp (disch := omega) [Und, eqf1, eqf2, s0, sg1, sg2, l1, l2, w1, w2, hm, -Bool.exists_bool, -Check_ok]
              simp [hold, offTo]
        · have hpf : ¬ okPf T C P Q := fun h => c3 h.2.2
          rw [if_neg hpf]
          refine fn_of' pl get21 (oo (by decide)) rfl rfl ?_
          simp (disch := omega) [eNet, hck, r1, r2, c1, c2, Und, -Bool.exists_bool, -Check_ok]
          have hcf := ContainsFuncI_ok nQ Q hQ 53 [] [.vptr [.int .i64 T, vl AV.bool nC C, vl eAn nA A] 0] (by decide) rfl rfl rfl rfl (fun x => !nth C x.toNat) (fun j hj => holds2_ok T nC C nA A (rise_ge c2 j hj) (c2 j hj).2)
          have hex : ∃ j, j < Q.length ∧ (!nth C (nth Q j).toNat) = true := by
            apply Classical.byContradiction
            intro h
            exact c3 fun i hi => by
              cases e : nth C (nth Q i).toNat
              · exact absurd ⟨i, hi, by rw [e]; rfl⟩ h
              · rfl
          rw [decide_eq_true hex] at hcf
          refine pc_scal (.cons (Snap.vl _ _ nQ Q) (.cons (SnapK.func .nil (.cons (SnapK.ptr (cs := [.int .i64 T, vl AV.bool nC C, vl eAn nA A]) (by simp) (.cons (SnapK.int _ _ _ _) (.cons (SnapK.vl _ _ _ nC C) (.cons (SnapK.vl _ _ _ nA A) .nil)))) .nil)).snap .nil)) (fun h => by cases h) (by simp) (oo (args := []) (by decide)).1 hcf rfl ?_
          simp (disch := omega) [Und, -Bool.exists_bool, -Check_ok]
      · have hpf : ¬ okPf T C P Q := fun h => c2 h.2.1
        rw [if_neg hpf]
        refine fn_of' pl get21 (oo (by decide)) rfl rfl ?_
        simp (disch := omega) [eNet, hck, r1, r2, c1, c2, Und, -Bool.exists_bool, -Check_ok]
    · have hpf : ¬ okPf T C P Q := fun h => c1 h.1
      rw [if_neg hpf]
      refine fn_of' pl get21 (oo (by decide)) rfl rfl ?_
      simp (disch := omega) [eNet, hck, r1, c1, Und, -Bool.exists_bool, -Check_ok]
  · rw [if_neg hok] at hck ⊢
    refine fn_of' pl get21 (oo (by decide)) rfl rfl ?_
    simp (disch := omega) [eNet, hck, Und, -Bool.exists_bool, -Check_ok]
end Go.Oct.Tri
