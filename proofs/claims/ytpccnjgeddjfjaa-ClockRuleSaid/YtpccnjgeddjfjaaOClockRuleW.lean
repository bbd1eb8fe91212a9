/- ClockRule: the law. -/
import Derived.Test.YtpccnjgeddjfjaaOClockRuleP
set_option maxRecDepth 100000
set_option maxHeartbeats 8000000
set_option linter.unusedVariables false
set_option linter.unusedSimpArgs false
namespace Go.Oct.Clock
open Go.Oct
theorem encB : Enc AV.bool 1 := ⟨fun _ => rfl, fun _ => rfl, fun _ => rfl, by decide⟩
theorem flatEnt : flatE eEnt := fun x c hc k f => by
  simp only [eEnt, cells_agg, List.mem_cons, List.not_mem_nil, or_false] at hc
  rcases hc with rfl | rfl <;> exact ⟨rfl, rfl⟩
theorem row_bool {xs : List Bool} {j : Nat} (h : j < xs.length) : (rowOf AV.bool xs)[j]? = some (.bool (nth xs j)) := by
  have := row_cell encB (xs := xs) (j := j) (c := 0) h (by omega)
  rw [Nat.mul_one, Nat.add_zero] at this
  exact this
theorem ClockRule_ok (nl : Bool) (l : List Ent) (turn : Int) {x : AV} (h : Slice eEnt entOK x nl l) (_ : i64 turn) : ans prog O 10 [vl eEnt nl l, .int .i64 turn] = some (.bool true) := by
  have hf := fits_of h
  have hx := hf.1
  have h1 := Rank_ok nl l hf
  refine fn_of' pl get10 (oo (by decide)) rfl rfl ?_
  by_cases hb : okTri l
  · have hv : rankV l = (ints (ordR l l.length), nums l l.length, 0) := by unfold rankV; rw [if_pos hb]; rfl
    rw [hv] at h1
    have hll := hb.1
    have ol := ordR_len l l.length
    have il := ints_len (ordR l l.length)
    rw [ol] at il
    have nl' := nums_len l l.length
    have rl : (rowOf AV.bool (List.replicate l.length false)) = zcells [.bool false] l.length := (zcells_row AV.bool (x := false) rfl l.length).symm
    generalize ho : ints (ordR l l.length) = o at h1 il
    generalize hn : nums l l.length = ns at h1 nl'
    simp (disch := omega) [h1, hll, il, ol, nl', -Bool.exists_bool]
    refine ⟨by simp only [topBytes]; omega, ?_⟩
    have honth : ∀ i, i < l.length → nth o i = ((nth (ordR l l.length) i : Nat) : Int) := fun i hi => by rw [← ho]; exact ints_nth (by omega)
    have holt : ∀ i, i < l.length → nth (ordR l l.length) i < l.length := fun i hi => ordR_lt (nth_mem (by omega))
    have hnnth : ∀ i, i < l.length → nth ns i = numV (nth l i).weeks := fun i hi => by rw [← hn]; exact nums_nth hi
    refine lp_loop pl (fun k fr σ => ∃ (i : Nat) (bs : List Bool), i + k = l.length ∧ fr = ⟨[(0, vl eEnt nl l), (1, .int .i64 turn), (5, vs o.isEmpty o), (6, vs ns.isEmpty ns), (8, .slice (some (0, 0)) l.length (.ex l.length)), (9, .int .i64 i)], []⟩ ∧ σ.lim = 0 ∧ bs.length = l.length ∧ σ.get 0 = some (.cells (rowOf AV.bool bs)) ∧
      ∀ a, a < l.length → (nth bs a = true ↔ ∃ q, q < i ∧ nth (ordR l l.length) q = a))
      ⟨l.length, 0, List.replicate l.length false, by omega, rfl, by simp, by simp, by rw [rl]; simp, fun a ha => ?_⟩ ?_
    · rw [nth_eq (by simpa using ha)]; simp
    rintro k _ σ ⟨i, bs, hi, rfl, hl0, hbl, hg, hbs⟩
    by_cases hil : i < l.length
    · have e1 := honth i hil
      have e2 := holt i hil
      have e3 := hnnth _ e2
      have hrb := rowOf_length encB bs
      generalize hm : nth (ordR l l.length) i = m at e1 e2 e3
      have hnm : nth bs m = false := by
        cases hq : nth bs m with
        | false => rfl
        | true =>
          obtain ⟨q, q1, q2⟩ := (hbs m e2).1 hq
          have hnd := ((ordR_perm l l.length).nodup_iff).2 List.nodup_range
          have := List.pairwise_iff_getElem.1 hnd q i (by omega) (by omega) q1
          rw [← nth_eq (by omega), ← nth_eq (by omega), hm] at this
          exact absurd q2 this
      have c1 := row_bool (xs := bs) (j := m) (by omega)
      rw [hnm] at c1
      have p1 := rowOf_set encB (xs := bs) (j := m) (by omega) true
      simp only [Nat.mul_one] at p1
      have q1 : (m : Int) < l.length := by omega
      have q2 : (m : Int) ≤ (l.length : Int) - 1 := by omega
      have q3 : m + 1 ≤ l.length := by omega
      have hwk := tri_weeks hb e2
      have hwl := hwk.1
      rcases Nat.eq_zero_or_pos i with h0 | h0
      · have h0' : ¬ 0 < i := by omega
        simp (disch := omega) [Und, hil, hl0, il, nl', e1, e2, e3, c1, hrb, hbl, hg, q1, q2, q3, h0', -Bool.exists_bool, -getElem?_pos]
        refine lp_loop pl (fun k2 fr σ' => ∃ (j : Nat) (W : Int), j + k2 = (nth l m).weeks.length ∧ fr = ⟨[(0, vl eEnt nl l), (1, .int .i64 turn), (5, vs o.isEmpty o), (6, vs ns.isEmpty ns), (8, .slice (some (0, 0)) l.length (.ex l.length)), (9, .int .i64 i), (12, vs (nth l m).wn (nth l m).weeks), (13, .int .i64 W), (14, .int .i64 (stepF (nth l m).weeks (j - 1))), (15, .int .i64 j)], []⟩ ∧
            σ' = σ.set 0 (.cells (rowOf AV.bool (bs.set m true))) ∧ WideTo (nth l m).weeks (fun a b => a < j ∧ b < (nth l m).weeks.length) W)
          ⟨(nth l m).weeks.length, 0, 0, by omega, by simp [stepF], by exact congrArg (fun r => σ.set 0 (AObj.cells r)) p1, Int.le_refl _, fun a b hab => by omega, .inl rfl⟩ ?_
        rintro k2 _ _ ⟨j, W, hj, rfl, rfl, hW⟩
        have hWb := hW.bd hwk
        by_cases hjl : j < (nth l m).weeks.length
        · simp (disch := omega) [Und, hjl, -Bool.exists_bool]
          refine lp_loop pl (fun k3 fr σ' => ∃ (c : Nat) (W : Int), c + k3 = (nth l m).weeks.length ∧ fr = ⟨[(0, vl eEnt nl l), (1, .int .i64 turn), (5, vs o.isEmpty o), (6, vs ns.isEmpty ns), (8, .slice (some (0, 0)) l.length (.ex l.length)), (9, .int .i64 i), (12, vs (nth l m).wn (nth l m).weeks), (13, .int .i64 W), (14, .int .i64 (stepF (nth l m).weeks (j - 1))), (15, .int .i64 j), (16, .int .i64 c)], []⟩ ∧
              σ' = σ.set 0 (.cells (rowOf AV.bool (bs.set m true))) ∧ WideTo (nth l m).weeks (fun a b => (a < j ∧ b < (nth l m).weeks.length) ∨ (a = j ∧ b < c)) W)
            ⟨(nth l m).weeks.length, 0, W, by omega, rfl, rfl, hW.nn, fun a b hab => hW.ge a b (by omega), hW.at_⟩ ?_
          rintro k3 _ _ ⟨c, V, hc, rfl, rfl, hV⟩
          have hVb := hV.bd hwk
          have b1 := hwk.2 j hjl
          by_cases hcl : c < (nth l m).weeks.length
          · have b2 := hwk.2 c hcl
            simp (disch := omega) [Und, hjl, hcl, -Bool.exists_bool]
            exact ⟨k3 - 1, by omega, c + 1, by omega, _, ⟨rfl, by omega⟩, hV.step hjl hcl fun x y (hxy : (x < j ∧ y < (nth l m).weeks.length) ∨ (x = j ∧ y < c + 1)) => (by omega : ((x < j ∧ y < (nth l m).weeks.length) ∨ (x = j ∧ y < c)) ∨ (x = j ∧ y = c))⟩
          · simp (disch := omega) [Und, hjl, hcl, -Bool.exists_bool]
            have hst := step_bd hwk (j - 1) (by omega)
            by_cases hj0 : 0 < j
            · have b3 := hwk.2 (j - 1) (by omega)
              have q6 : ((j : Int) - 1).toNat = j - 1 := by omega
              have q7 : (j : Int) - 1 < (nth l m).weeks.length := by omega
              have q8 : 1 ≤ j := hj0
              have q9 : ¬ j = 0 := by omega
              have e9 : stepF (nth l m).weeks j = max (max (stepF (nth l m).weeks (j - 1)) (nth (nth l m).weeks j - nth (nth l m).weeks (j - 1))) (nth (nth l m).weeks (j - 1) - nth (nth l m).weeks j) := by
                obtain ⟨t, rfl⟩ : ∃ t, j = t + 1 := ⟨j - 1, by omega⟩
                simp only [stepF, Nat.add_sub_cancel]
                omega
              simp (disch := omega) [Und, hj0, hjl, q6, q7, q8, q9, -Bool.exists_bool]
              exact ⟨by omega, k2 - 1, by omega, j + 1, by omega, _, ⟨rfl, by rw [Nat.add_sub_cancel, e9]; omega, by omega⟩, hV.nn, fun a b hab => hV.ge a b (by omega), hV.at_⟩
            · obtain rfl : j = 0 := by omega
              simp (disch := omega) [Und, -Bool.exists_bool]
              exact ⟨k2 - 1, by omega, 0 + 1, by omega, _, ⟨rfl, rfl, by omega⟩, hV.nn, fun a b hab => hV.ge a b (by omega), hV.at_⟩
        · have hall := hW.all (by have := hwk.1; omega) fun a b ha hb => by omega
          have hst := step_bd hwk (j - 1) (by omega)
          have hje : j = (nth l m).weeks.length := by omega
          have hnv : numV (nth l m).weeks = W + 2 * stepF (nth l m).weeks (j - 1) := by unfold numV; rw [hall, hje]
          have hgl := AH.get_lt hg
          simp (disch := omega) [Und, hjl, il, nl', hil, e1, e3, q1, hnv, -Bool.exists_bool]
          refine ⟨k - 1, by omega, i + 1, by omega, by omega, hl0, bs.set m true, by rw [List.length_set]; exact hbl, ⟨hgl, rfl⟩, fun a ha => ?_⟩
          rw [nth_set (by omega)]
          by_cases ham : a = m
          · rw [if_pos ham]
            exact ⟨fun _ => ⟨i, by omega, by rw [hm, ham]⟩, fun _ => rfl⟩
          · rw [if_neg ham, hbs a ha]
            constructor
            · rintro ⟨q, q5, q6⟩; exact ⟨q, by omega, q6⟩
            · rintro ⟨q, q5, q6⟩
              by_cases hqi : q = i
              · subst hqi; rw [hm] at q6; exact absurd q6.symm ham
              · exact ⟨q, by omega, q6⟩
      · have f1 := honth (i - 1) (by omega)
        have f2 := holt (i - 1) (by omega)
        have f3 := hnnth _ f2
        have hlt : ltI l (nth (ordR l l.length) (i - 1)) m := by
          have := List.pairwise_iff_getElem.1 (ordR_sorted hb l.length (Nat.le_refl _)) (i - 1) i (by omega) (by omega) (by omega)
          rw [← nth_eq (by omega), ← nth_eq (by omega), hm] at this
          exact this
        generalize hm' : nth (ordR l l.length) (i - 1) = m' at f1 f2 f3 hlt
        have r1 : ((i : Int) - 1).toNat = i - 1 := by omega
        have r2 : (i : Int) - 1 < l.length := by omega
        have r3 : (m' : Int) < l.length := by omega
        have r4 : 1 ≤ i := h0
        have hlt1 : ¬ numV (nth l m).weeks < numV (nth l m').weeks := by
          rcases hlt with h | ⟨h, _⟩
          · have h : numV (nth l m').weeks < numV (nth l m).weeks := h
            omega
          · have h : numV (nth l m').weeks = numV (nth l m).weeks := h
            omega
        have hlt2 : numV (nth l m').weeks = numV (nth l m).weeks → slt (nth l m').name (nth l m).name := fun h2 => by
          rcases hlt with h | ⟨_, h⟩
          · have h : numV (nth l m').weeks < numV (nth l m).weeks := h
            omega
          · exact h
        simp (disch := omega) [Und, hil, hl0, il, nl', e1, e2, e3, c1, hrb, hbl, hg, q1, q2, q3, h0, f1, f2, f3, r1, r2, r3, r4, hlt1, -Bool.exists_bool, -getElem?_pos]
        refine ⟨by omega, hlt2, fun _ => ?_⟩
        refine lp_loop pl (fun k2 fr σ' => ∃ (j : Nat) (W : Int), j + k2 = (nth l m).weeks.length ∧ fr = ⟨[(0, vl eEnt nl l), (1, .int .i64 turn), (5, vs o.isEmpty o), (6, vs ns.isEmpty ns), (8, .slice (some (0, 0)) l.length (.ex l.length)), (9, .int .i64 i), (12, vs (nth l m).wn (nth l m).weeks), (13, .int .i64 W), (14, .int .i64 (stepF (nth l m).weeks (j - 1))), (15, .int .i64 j)], []⟩ ∧
            σ' = σ.set 0 (.cells (rowOf AV.bool (bs.set m true))) ∧ WideTo (nth l m).weeks (fun a b => a < j ∧ b < (nth l m).weeks.length) W)
          ⟨(nth l m).weeks.length, 0, 0, by omega, by simp [stepF], by exact congrArg (fun r => σ.set 0 (AObj.cells r)) p1, Int.le_refl _, fun a b hab => by omega, .inl rfl⟩ ?_
        rintro k2 _ _ ⟨j, W, hj, rfl, rfl, hW⟩
        have hWb := hW.bd hwk
        by_cases hjl : j < (nth l m).weeks.length
        · simp (disch := omega) [Und, hjl, -Bool.exists_bool]
          refine lp_loop pl (fun k3 fr σ' => ∃ (c : Nat) (W : Int), c + k3 = (nth l m).weeks.length ∧ fr = ⟨[(0, vl eEnt nl l), (1, .int .i64 turn), (5, vs o.isEmpty o), (6, vs ns.isEmpty ns), (8, .slice (some (0, 0)) l.length (.ex l.length)), (9, .int .i64 i), (12, vs (nth l m).wn (nth l m).weeks), (13, .int .i64 W), (14, .int .i64 (stepF (nth l m).weeks (j - 1))), (15, .int .i64 j), (16, .int .i64 c)], []⟩ ∧
              σ' = σ.set 0 (.cells (rowOf AV.bool (bs.set m true))) ∧ WideTo (nth l m).weeks (fun a b => (a < j ∧ b < (nth l m).weeks.length) ∨ (a = j ∧ b < c)) W)
            ⟨(nth l m).weeks.length, 0, W, by omega, rfl, rfl, hW.nn, fun a b hab => hW.ge a b (by omega), hW.at_⟩ ?_
          rintro k3 _ _ ⟨c, V, hc, rfl, rfl, hV⟩
          have hVb := hV.bd hwk
          have b1 := hwk.2 j hjl
          by_cases hcl : c < (nth l m).weeks.length
          · have b2 := hwk.2 c hcl
            simp (disch := omega) [Und, hjl, hcl, -Bool.exists_bool]
            exact ⟨k3 - 1, by omega, c + 1, by omega, _, ⟨rfl, by omega⟩, hV.step hjl hcl fun x y (hxy : (x < j ∧ y < (nth l m).weeks.length) ∨ (x = j ∧ y < c + 1)) => (by omega : ((x < j ∧ y < (nth l m).weeks.length) ∨ (x = j ∧ y < c)) ∨ (x = j ∧ y = c))⟩
          · simp (disch := omega) [Und, hjl, hcl, -Bool.exists_bool]
            have hst := step_bd hwk (j - 1) (by omega)
            by_cases hj0 : 0 < j
            · have b3 := hwk.2 (j - 1) (by omega)
              have q6 : ((j : Int) - 1).toNat = j - 1 := by omega
              have q7 : (j : Int) - 1 < (nth l m).weeks.length := by omega
              have q8 : 1 ≤ j := hj0
              have q9 : ¬ j = 0 := by omega
              have e9 : stepF (nth l m).weeks j = max (max (stepF (nth l m).weeks (j - 1)) (nth (nth l m).weeks j - nth (nth l m).weeks (j - 1))) (nth (nth l m).weeks (j - 1) - nth (nth l m).weeks j) := by
                obtain ⟨t, rfl⟩ : ∃ t, j = t + 1 := ⟨j - 1, by omega⟩
                simp only [stepF, Nat.add_sub_cancel]
                omega
              simp (disch := omega) [Und, hj0, hjl, q6, q7, q8, q9, -Bool.exists_bool]
              exact ⟨by omega, k2 - 1, by omega, j + 1, by omega, _, ⟨rfl, by rw [Nat.add_sub_cancel, e9]; omega, by omega⟩, hV.nn, fun a b hab => hV.ge a b (by omega), hV.at_⟩
            · obtain rfl : j = 0 := by omega
              simp (disch := omega) [Und, -Bool.exists_bool]
              exact ⟨k2 - 1, by omega, 0 + 1, by omega, _, ⟨rfl, rfl, by omega⟩, hV.nn, fun a b hab => hV.ge a b (by omega), hV.at_⟩
        · have hall := hW.all (by have := hwk.1; omega) fun a b ha hb => by omega
          have hst := step_bd hwk (j - 1) (by omega)
          have hje : j = (nth l m).weeks.length := by omega
          have hnv : numV (nth l m).weeks = W + 2 * stepF (nth l m).weeks (j - 1) := by unfold numV; rw [hall, hje]
          have hgl := AH.get_lt hg
          simp (disch := omega) [Und, hjl, il, nl', hil, e1, e3, q1, hnv, -Bool.exists_bool]
          refine ⟨k - 1, by omega, i + 1, by omega, by omega, hl0, bs.set m true, by rw [List.length_set]; exact hbl, ⟨hgl, rfl⟩, fun a ha => ?_⟩
          rw [nth_set (by omega)]
          by_cases ham : a = m
          · rw [if_pos ham]
            exact ⟨fun _ => ⟨i, by omega, by rw [hm, ham]⟩, fun _ => rfl⟩
          · rw [if_neg ham, hbs a ha]
            constructor
            · rintro ⟨q, q5, q6⟩; exact ⟨q, by omega, q6⟩
            · rintro ⟨q, q5, q6⟩
              by_cases hqi : q = i
              · subst hqi; rw [hm] at q6; exact absurd q6.symm ham
              · exact ⟨q, by omega, q6⟩
    · obtain rfl : i = l.length := by omega
      simp (disch := omega) [Und, hl0, il, -Bool.exists_bool]
      have hb0 := Int.emod_nonneg turn (show (l.length : Int) ≠ 0 by omega)
      have hb1 := Int.emod_lt_of_pos turn (show 0 < (l.length : Int) by omega)
      obtain ⟨b, hbb⟩ : ∃ b : Nat, turn % (l.length : Int) = b := ⟨(turn % (l.length : Int)).toNat, by omega⟩
      rw [hbb]
      have hbl : b < l.length := by omega
      refine ⟨by omega, ?_⟩
      rw [Int.toNat_natCast, List.take_of_length_le (by simp)]
      refine lit0_app (lo := σ.next) (ys := l.drop b) encEnt (Nat.le_refl _) (by simp) (by simp) (vl_src encEnt _ _) (by rw [List.length_drop]; simp only [topBytes]; omega) fun v2 σ2 w1 w2 w3 => ?_
      have s2l : σ2.lim = 0 := by have := w2.lim; simp at this; omega
      have s2n : σ.next + 1 ≤ σ2.next := w2.next
      simp (disch := omega) [Und, s2l, -Bool.exists_bool]
      refine ⟨by omega, ?_⟩
      refine w1.appV encEnt (by omega) (by omega) (by simp only [List.length_drop, List.length_take, topBytes]; omega) fun v3 σ3 p1 p2 => ?_
      have s3l : σ3.lim = 0 := by have := p2.lim; omega
      have htk := turn_ok hb hbl
      have htf : fits (l.drop b ++ l.take b) := ⟨by have := turn_len l b hbl; unfold turnL at this; omega, fun i hi => by
        have e1 := turn_len l b hbl
        unfold turnL at e1
        have e2 := turn_nth hbl (i := i) (by omega)
        unfold turnL at e2
        rw [e2]
        exact hf.2 _ (turnI_lt (by omega))⟩
      have h2 := Rank_ok false (l.drop b ++ l.take b) htf
      have hv2 : rankV (l.drop b ++ l.take b) = (ints (ordR (turnL l b) l.length), nums (turnL l b) l.length, 0) := by
        have e1 := turn_len l b hbl
        show rankV (turnL l b) = _
        unfold rankV
        rw [if_pos htk, e1]; rfl
      rw [hv2] at h2
      have il2 := ints_len (ordR (turnL l b) l.length)
      rw [ordR_len] at il2
      have hto := turn_ord hb hbl
      have hpn : ∀ i, i < l.length → ((nth (ints (ordR (turnL l b) l.length)) i + b) % (l.length : Int)) = nth o i ∧ 0 ≤ nth (ints (ordR (turnL l b) l.length)) i ∧ nth (ints (ordR (turnL l b) l.length)) i < l.length := fun i hi => by
        have e1 := ints_nth (o := ordR (turnL l b) l.length) (i := i) (by rw [ordR_len]; exact hi)
        have e2 : nth (ordR (turnL l b) l.length) i < l.length := ordR_lt (nth_mem (by rw [ordR_len]; exact hi))
        have e3 : turnI l.length b (nth (ordR (turnL l b) l.length) i) = nth (ordR l l.length) i := by rw [← hto, nth_map _ (by rw [ordR_len]; exact hi)]
        rw [e1, honth i hi, ← e3]
        unfold turnI
        exact ⟨by push_cast; rfl, by omega, by omega⟩
      generalize hp : ints (ordR (turnL l b) l.length) = pp at h2 il2 hpn
      simp (disch := omega) [Und, s3l, -Bool.exists_bool]
      refine pc_kill (.cons (p1.view.snap encEnt flatEnt) .nil) (fun h => by rw [p1.view.closed] at h; simp at h) (by simp) (oo (args := []) (by decide)).1 (fun i _ => by omega) h2 fun σ4 o4 => ?_
      have s4l : σ4.lim = 0 := by have := o4.lim; omega
      simp (disch := omega) [Und, s4l, il, il2, -Bool.exists_bool]
      refine lp_loop pl (fun k fr σ => ∃ j : Nat, j + k = l.length ∧ fr = ⟨[(0, vl eEnt nl l), (5, vs o.isEmpty o), (17, .int .i64 b), (18, vs pp.isEmpty pp), (20, .int .i64 j)], []⟩ ∧ σ.lim = 0) ⟨l.length, 0, by omega, rfl, s4l⟩ ?_
      rintro k _ σ5 ⟨j, hj, rfl, s5l⟩
      have hu := under_zero s5l
      by_cases hjl : j < l.length
      · obtain ⟨f1, f2, f3⟩ := hpn j hjl
        simp (disch := omega) [Und, hjl, il, il2, s5l, hu, f1, -Bool.exists_bool]
        exact ⟨k - 1, by omega, j + 1, by omega, by omega⟩
      · simp (disch := omega) [Und, hjl, il, il2, s5l, hu, -Bool.exists_bool]
  · have hv : rankV l = ([], [], 72) := by unfold rankV; rw [if_neg hb]
    rw [hv] at h1
    simp (disch := omega) [h1]
end Go.Oct.Clock
