/- Nets: Closes of the program. -/
import Derived.Test.YtddkghgfbhhcdaaOTriCloM
set_option maxRecDepth 100000
set_option maxHeartbeats 8000000
set_option linter.unusedVariables false
set_option linter.unusedSimpArgs false
namespace Go.Oct.Tri
open Go.Oct
theorem pCloses_ok (T : Nat) (nC : Bool) (C : List Bool) (nA : Bool) (A : List An) (nH : Bool) (H : List Int) (hC : C.length < 2 ^ 62) (hA : A.length < 2 ^ 62) (hH : H.length < 2 ^ 62) :
    ans prog O 18 [eNet T nC C nA A, vs nH H] = some (if okNet T C A then (if H.length = A.length then .tuple [.bool (decide (clD T C A H)), .int .i64 0] else .tuple [.bool false, .int .i64 61]) else .tuple [.bool false, .int .i64 60]) := by
  have hck := Check_ok T nC C nA A hC hA
  unfold eNet at hck
  by_cases hok : okNet T C A
  · have hN := hok.1
    have hC8 := hok.2.1
    have hA3 := hok.2.2.1
    rw [if_pos hok] at hck ⊢
    by_cases hl : H.length = A.length
    · rw [if_pos hl]
      have hl'' : (H.length : Int) = A.length := by omega
      refine fn_of' pl get18 (oo (by decide)) rfl rfl ?_
      simp (disch := omega) [eNet, hck, hl'', Und, -Bool.exists_bool, -Check_ok]
      refine lp_loop pl (fun k fr σ => ∃ i : Nat, k + i = A.length ∧ fr = ⟨[(1, vs nH H), (2, .ptr (some (0, 0))), (7, .map (some 1)), (8, .map (some 2)), (28, vl eAn nA A), (29, .int .i64 A.length), (30, .int .i64 i)], []⟩ ∧ σ.lim = 0 ∧ 3 ≤ σ.next ∧
          σ.get 0 = some (.cells [.int .i64 T, vl AV.bool nC C, vl eAn nA A]) ∧ (∀ j, j < i → (nth A j).lo ≤ nth H j ∧ nth H j ≤ (nth A j).hi) ∧
          ∃ es c fs d, σ.get 1 = some (.map (es.map ent) c) ∧ σ.get 2 = some (.map (fs.map ent) d) ∧ MapB 3 σ es (fun t => lBy (fun a => decide (a.t = t)) (A.take i) (H.take i)) ∧ MapB 3 σ fs (fun t => lBy (fun a => decide (a.s = t)) (A.take i) (H.take i)) ∧ Sep1 es ∧ Sep1 fs ∧ Sep es fs)
        ⟨A.length, 0, by omega, rfl, rfl, by simp, by simp, by simp, [], 0, [], 0, by simp, by simp, fun t => .inl ⟨rfl, by simp [lBy]⟩, fun t => .inl ⟨rfl, by simp [lBy]⟩, fun t u _ i hi => (by cases hi), fun t u _ i hi => (by cases hi), fun t u i hi => (by cases hi)⟩ ?_
      rintro k _ σ ⟨i, hi, rfl, s0, sn, sg0, hb, es1, n1, es2, n2, sg1, sg2, hm1, hm2, hs1, hs2, hs12⟩
      have l0 := AH.get_lt sg0
      have l1 := AH.get_lt sg1
      have l2 := AH.get_lt sg2
      by_cases hiA : i < A.length
      · have hiA' : (i : Int) < A.length := by omega
        have hiH' : (i : Int) < H.length := by omega
        have k1 := look_I (nth A i).t sg1
        have k2 := look_I (nth A i).s sg2
        by_cases hbi : (nth A i).lo ≤ nth H i ∧ nth H i ≤ (nth A i).hi
        · have hbi1 := hbi.1
          have hbi2 := hbi.2
          simp (disch := omega) [eAn, Und, s0, sg0, l0, l1, l2, hiA', hiH', hbi1, hbi2, hl'', ahop_lookup, -Bool.exists_bool, -Check_ok]
          have hg1 : (lBy (fun a => decide (a.t = (nth A i).t)) (A.take i) (H.take i)).length ≤ 24 := by
            have := lBy_len (fun a => decide (a.t = (nth A i).t)) (A.take i) (H.take i)
            have h2 : (H.take i).length ≤ 24 := by rw [List.length_take]; omega
            omega
          have hg2 : (lBy (fun a => decide (a.s = (nth A i).s)) (A.take i) (H.take i)).length ≤ 24 := by
            have := lBy_len (fun a => decide (a.s = (nth A i).s)) (A.take i) (H.take i)
            have h2 : (H.take i).length ≤ 24 := by rw [List.length_take]; omega
            omega
          have q1 : ¬ 1 = σ.next := by omega
          have q2 : ¬ 2 = σ.next := by omega
          rw [look_I (es := es1) (c := n1) _ (by simp (disch := omega) [sg1, l1, q1])]
          simp (disch := omega) [eAn, Und, s0, sg0, l0, l1, l2, hiA', hiH', hbi1, hbi2, hl'', ahop_lookup, ahop_mapUpd, -Bool.exists_bool, -Check_ok]
          generalize hτ : AH.under (AH.set (AH.push σ _) σ.next _) 0 = τ
          have tn : τ.next = σ.next + 1 := by rw [← hτ]; rfl
          have t0 : τ.lim = 0 := by rw [← hτ]; rfl
          have tg : ∀ z, z < σ.next → τ.get z = σ.get z := fun z hz => by
            rw [← hτ]
            have : ¬ z = σ.next := by omega
            simp (disch := omega) [this]
          have tm1 := hm1.keep (σ' := τ) fun z _ hz => tg z hz
          have tm2 := hm2.keep (σ' := τ) fun z _ hz => tg z hz
          rw [show σ.next + 1 = τ.next from tn.symm]
          refine Buf.apkS (tm1 (nth A i).t) ⟨fun _ => rfl, fun _ => rfl, fun _ => rfl, by decide⟩ (by omega) (by show 3 ≤ τ.next; omega) (by show τ.next ≤ τ.next; omega) (fun z hz => by
            have hz2 := ((hm1 (nth A i).t).obj_lt z hz).2
            exact ⟨by show z < τ.next; omega, by simp; omega⟩) (nth H i) (by simp only [topBytes]; omega) rfl fun v1 τ1 sts1 q1b q1g q1s => ?_
          have lt1 : (τ1.get 1) = some (.map (es1.map ent) n1) := by rw [q1g.get 1 (by omega), tg 1 (by omega)]; exact sg1
          have g0 : τ1.get 0 = some (.cells [.int .i64 T, vl AV.bool nC C, vl eAn nA A]) := by rw [q1g.get 0 (by omega), tg 0 (by omega)]; exact sg0
          have g2 : τ1.get 2 = some (.map (es2.map ent) n2) := by rw [q1g.get 2 (by omega), tg 2 (by omega)]; exact sg2
          have ga : τ1.get σ.next = some (.cells [.int .i64 (nth A i).t, .int .i64 (nth A i).s, .int .i64 (nth A i).lo, .int .i64 (nth A i).hi]) := by
            rw [q1g.only.get σ.next (by omega) fun hz => by have := ((hm1 (nth A i).t).obj_lt _ hz).2; omega, ← hτ]
            simp (disch := omega)
          have tl1 : τ1.lim = 0 := q1g.lim.trans t0
          have tn1 : τ.next ≤ τ1.next := q1g.next
          obtain ⟨e1, c1, hu1, he1⟩ := upd_I (σ := τ1) (m := 1) (nth A i).t v1 (by omega) lt1
          obtain ⟨w1, w2⟩ := tm1.upd hs1 q1b q1g he1
          obtain ⟨w3, w4⟩ := tm2.other hs12 q1g he1
          have q1' : ¬ σ.next = 1 := by omega
          have q2' : ¬ σ.next = 2 := by omega
          have q3' : σ.next < τ1.next := by omega
          have q4' : 2 < τ1.next := by omega
          simp (disch := omega) [eAn, Und, tl1, g0, ga, l0, l1, l2, hiA', hiH', hl'', ahop_lookup, ahop_mapUpd, hu1, q1', q2', q3', -Bool.exists_bool, -Check_ok]
          rw [look_I (es := es2) (c := n2) _ (by simp (disch := omega) [g2, q4'])]
          simp (disch := omega) [eAn, Und, tl1, g0, ga, l0, l1, l2, hiA', hiH', hl'', ahop_lookup, ahop_mapUpd, hu1, q1', q2', q3', -Bool.exists_bool, -Check_ok]
          generalize hυ : AH.under (AH.set τ1 1 _) 0 = υ
          have un : υ.next = τ1.next := by rw [← hυ]; rfl
          have u0 : υ.lim = 0 := by rw [← hυ]; rfl
          have ug : ∀ z, z ≠ 1 → υ.get z = τ1.get z := fun z hz => by
            rw [← hυ]
            simp (disch := omega) [hz]
          have um1 := w1.keep (σ' := υ) fun z hz _ => ug z (by omega)
          have um2 := w3.keep (σ' := υ) fun z hz _ => ug z (by omega)
          rw [← un]
          refine Buf.apkS (um2 (nth A i).s) ⟨fun _ => rfl, fun _ => rfl, fun _ => rfl, by decide⟩ (by omega) (by show 3 ≤ υ.next; omega) (by show υ.next ≤ υ.next; omega) (fun z hz => by
            have hz2 := ((hm2 (nth A i).s).obj_lt z hz).2
            exact ⟨by show z < υ.next; omega, by simp; omega⟩) (nth H i) (by simp only [topBytes]; omega) rfl fun v2 τ2 sts2 q2b q2g q2s => ?_
          have lt2 : τ2.get 2 = some (.map (es2.map ent) n2) := by rw [q2g.get 2 (by omega), ug 2 (by omega)]; exact g2
          have h0 : τ2.get 0 = some (.cells [.int .i64 T, vl AV.bool nC C, vl eAn nA A]) := by rw [q2g.get 0 (by omega), ug 0 (by omega)]; exact g0
          have tl2 : τ2.lim = 0 := q2g.lim.trans u0
          have tn2 : υ.next ≤ τ2.next := q2g.next
          obtain ⟨e2, c2, hu2, he2⟩ := upd_I (σ := τ2) (m := 2) (nth A i).s v2 (by omega) lt2
          obtain ⟨x1, x2⟩ := um2.upd hs2 q2b q2g he2
          obtain ⟨x3, x4⟩ := um1.other w4.symm q2g he2
          have h1 : τ2.get 1 = some (.map (e1.map ent) c1) := by
            rw [q2g.get 1 (by omega), ← hυ]
            have : 1 < τ1.next := by omega
            simp (disch := omega) [this]
          simp (disch := omega) [Und, tl2, h0, lt2, ahop_mapUpd, hu2, -Bool.exists_bool, -Check_ok]
          have hle : (A.take i).length = i := by rw [List.length_take]; omega
          have hlh : (H.take i).length = i := by rw [List.length_take]; omega
          have eL : (fun t => lBy (fun a => decide (a.t = t)) (A.take (i + 1)) (H.take (i + 1))) = fun u => if (nth A i).t = u then lBy (fun a => decide (a.t = (nth A i).t)) (A.take i) (H.take i) ++ [nth H i] else lBy (fun a => decide (a.t = u)) (A.take i) (H.take i) := by
            funext u
            rw [take_succ_nth hiA, take_succ_nth (xs := H) (by omega), lBy_app _ _ _ _ _ (by omega)]
            by_cases e : (nth A i).t = u <;> simp [e]
          have eM : (fun t => lBy (fun a => decide (a.s = t)) (A.take (i + 1)) (H.take (i + 1))) = fun u => if (nth A i).s = u then lBy (fun a => decide (a.s = (nth A i).s)) (A.take i) (H.take i) ++ [nth H i] else lBy (fun a => decide (a.s = u)) (A.take i) (H.take i) := by
            funext u
            rw [take_succ_nth hiA, take_succ_nth (xs := H) (by omega), lBy_app _ _ _ _ _ (by omega)]
            by_cases e : (nth A i).s = u <;> simp [e]
          refine ⟨k - 1, by omega, i + 1, by omega, by omega, by omega, fun j hj => ?_, e1, ⟨c1, h1⟩, e2, ⟨by omega, rfl⟩, ?_, ?_, w2, x2, x4.symm⟩
          · by_cases e : j = i
            · subst e; exact hbi
            · exact hb j (by omega)
          · rw [eL]
            exact x3.keep fun z hz _ => AH.get_set_other _ _ _ _ (by omega)
          · rw [eM]
            exact x1.keep fun z hz _ => AH.get_set_other _ _ _ _ (by omega)
        · have hno : ¬ clD T C A H := fun h => hbi (h.1.2 i hiA)
          by_cases hb1 : (nth A i).lo ≤ nth H i
          · have hb2 : ¬ nth H i ≤ (nth A i).hi := fun h => hbi ⟨hb1, h⟩
            simp (disch := omega) [eAn, Und, s0, sg0, l0, l1, l2, hiA', hiH', hb1, hb2, hno, hl'', ahop_lookup, -Bool.exists_bool, -Check_ok]
          · simp (disch := omega) [eAn, Und, s0, sg0, l0, l1, l2, hiA', hiH', hb1, hno, hl'', ahop_lookup, -Bool.exists_bool, -Check_ok]
      · obtain rfl : i = A.length := by omega
        simp (disch := omega) [eAn, Und, s0, sg0, l0, l1, l2, hl'', ahop_lookup, -Bool.exists_bool, -Check_ok]
        rw [List.take_length, List.take_of_length_le (by omega)] at hm1 hm2
        have hbH : ∀ x ∈ H, 0 ≤ x ∧ x ≤ 648000 := fun x hx => by
          obtain ⟨j, hj, rfl⟩ := mem_nth.1 hx
          have a1 := (hok.2.2.2.1 j (by omega)).2.2
          have a2 := hb j (by omega)
          omega
        have hsm : ∀ (f : An → Bool) (nl : Bool), ans prog O 48 [vs nl (lBy f A H)] = some (.int .i64 (sBy f A H)) := fun f nl => by
          have hl2 := lBy_len f A H
          rw [sum_ok nl _ (by omega) fun x hx => hbH x (lBy_mem f A H hx), sumL_by]
        refine lp_loop pl (fun k fr σ => ∃ t : Nat, k + t = T ∧ fr = ⟨[(2, .ptr (some (0, 0))), (7, .map (some 1)), (8, .map (some 2)), (75, .int .i64 T), (76, .int .i64 t)], []⟩ ∧ σ.lim = 0 ∧ 3 ≤ σ.next ∧
            σ.get 0 = some (.cells [.int .i64 T, vl AV.bool nC C, vl eAn nA A]) ∧ σ.get 1 = some (.map (es1.map ent) n1) ∧ σ.get 2 = some (.map (es2.map ent) n2) ∧
            (∀ u : Nat, t ≤ u → Buf 3 1 (AV.int .i64) σ (mgl es1 u) (lBy (fun a => decide (a.t = (u : Int))) A H)) ∧ MapB 3 σ es2 (fun t => lBy (fun a => decide (a.s = t)) A H) ∧
            ∀ u, u < t → sBy (fun a => decide (a.t = (u : Nat))) A H = 648000)
          ⟨T, 0, by omega, rfl, s0, sn, sg0, sg1, sg2, fun u _ => hm1 u, hm2, fun u hu => by omega⟩ ?_
        rintro k _ σ ⟨t, ht, rfl, s0, sn, sg0, sg1, sg2, hm1, hm2, hsum⟩
        have l0 := AH.get_lt sg0
        have l1 := AH.get_lt sg1
        have l2 := AH.get_lt sg2
        by_cases htT : t < T
        · have htT' : (t : Int) < T := by omega
          simp (disch := omega) [Und, s0, sg0, l0, l1, l2, htT', ahop_lookup, look_I _ sg1, -Bool.exists_bool, -Check_ok]
          refine (hm1 t (Nat.le_refl _)).call ⟨fun _ => rfl, fun _ => rfl, fun _ => rfl, by decide⟩ flatI (by omega) (oo (args := []) (by decide)).1 (hsm _ _) fun σ' ho => ?_
          have ob : ∀ i ∈ obj (mgl es1 t), 3 ≤ i := fun i hi => ((hm1 t (Nat.le_refl _)).obj_lt i hi).1
          have m0 : σ'.get 0 = _ := (ho.get 0 (by omega) fun h => by have := ob 0 h; omega).trans sg0
          have m1 : σ'.get 1 = _ := (ho.get 1 (by omega) fun h => by have := ob 1 h; omega).trans sg1
          have m2 : σ'.get 2 = _ := (ho.get 2 (by omega) fun h => by have := ob 2 h; omega).trans sg2
          have mn := ho.next
          have ml := ho.lim
          by_cases hv : sBy (fun a => decide (a.t = (t : Int))) A H = 648000
          · simp (disch := omega) [Und, hv, ml, s0, -Bool.exists_bool, -Check_ok]
            exact ⟨k - 1, by omega, t + 1, by omega, by omega, by omega, m0, m1, m2, fun u hu => (hm1 u (by omega)).stay ho fun i hi => hs1 u t (by omega) i hi, fun u => (hm2 u).stay ho fun i hi hi2 => hs12 t u i hi2 hi, fun u hu => by
              by_cases e : u = t
              · subst e; exact hv
              · exact hsum u (by omega)⟩
          · have hno : ¬ clD T C A H := fun h => hv (h.2.1 t htT)
            simp (disch := omega) [Und, hv, ml, s0, hno, -Bool.exists_bool, -Check_ok]
        · obtain rfl : t = T := by omega
          simp (disch := omega) [Und, s0, sg0, l0, l1, l2, ahop_lookup, -Bool.exists_bool, -Check_ok]
          refine lp_loop pl (fun k fr σ => ∃ u : Nat, k + u = C.length ∧ fr = ⟨[(8, .map (some 2)), (86, vl AV.bool nC C), (87, .int .i64 C.length), (88, .int .i64 u)], []⟩ ∧ σ.lim = 0 ∧ 3 ≤ σ.next ∧ σ.get 2 = some (.map (es2.map ent) n2) ∧
              (∀ w : Nat, u ≤ w → Buf 3 1 (AV.int .i64) σ (mgl es2 w) (lBy (fun a => decide (a.s = (w : Int))) A H)) ∧
              ∀ w, w < u → nth C w = true → sBy (fun a => decide (a.s = (w : Nat))) A H = 1296000)
            ⟨C.length, 0, by omega, rfl, s0, sn, sg2, fun u _ => hm2 u, fun u hu => by omega⟩ ?_
          rintro k _ σ ⟨u, hu, rfl, s0, sn, sg2, hm2, hsu⟩
          have l2 := AH.get_lt sg2
          by_cases huC : u < C.length
          · have huC' : (u : Int) < C.length := by omega
            cases hc : nth C u
            · simp (disch := omega) [Und, hc, s0, l2, huC', ahop_lookup, look_I _ sg2, -Bool.exists_bool, -Check_ok]
              refine ⟨fun h => h.elim, fun _ => ?_⟩
              simp (disch := omega) [Und, hc, s0, l2, huC', -Bool.exists_bool, -Check_ok]
              exact ⟨k - 1, by omega, u + 1, by omega, by omega, by omega, sg2, fun w hw => hm2 w (by omega), fun w hw h1 => by
                by_cases e : w = u
                · subst e; rw [hc] at h1; cases h1
                · exact hsu w (by omega) h1⟩
            · simp (disch := omega) [Und, hc, s0, l2, huC', ahop_lookup, look_I _ sg2, -Bool.exists_bool, -Check_ok]
              refine ⟨fun _ => ?_, fun h => absurd trivial h⟩
              rw [show ∀ (k : AV → AH → Prop) o env, vOp prog O pl o env σ k = @O1 prog O pl o env σ ⟨k⟩ from fun _ _ _ => rfl]
              simp (disch := omega) [Und, eqf1, eqf2, hc, s0, l2, huC', ahop_lookup, look_I _ sg2, -Bool.exists_bool, -Check_ok]
              have hB := hm2 u (Nat.le_refl _)
              by_cases hcl : closed 8 (mgl es2 u) = true
              · rw [if_pos hcl, ← hB.nilOf hcl, hsm]
                by_cases hv : sBy (fun a => decide (a.s = (u : Int))) A H = 1296000
                · simp (disch := omega) [Und, hv, s0, -Bool.exists_bool, -Check_ok]
                  exact ⟨k - 1, by omega, u + 1, by omega, by omega, by omega, sg2, fun w hw => hm2 w (by omega), fun w hw h1 => by
                    by_cases e : w = u
                    · subst e; exact hv
                    · exact hsu w (by omega) h1⟩
                · have hno : ¬ clD t C A H := fun h => hv (h.2.2 u huC hc)
                  simp (disch := omega) [Und, hv, s0, hno, -Bool.exists_bool, -Check_ok]
              · rw [if_neg hcl, show false = closed 8 (mgl es2 u) from (Bool.eq_false_iff.2 hcl).symm]
                have hcf := Bool.eq_false_iff.2 hcl
                refine hB.call ⟨fun _ => rfl, fun _ => rfl, fun _ => rfl, by decide⟩ flatI (by omega) (oo (args := []) (by decide)).1 (hsm _ _) fun σ' ho => ?_
                have ob : ∀ i ∈ obj (mgl es2 u), 3 ≤ i := fun i hi => (hB.obj_lt i hi).1
                have m2 : σ'.get 2 = _ := (ho.get 2 (by omega) fun h => by have := ob 2 h; omega).trans sg2
                have mn := ho.next
                have ml := ho.lim
                by_cases hv : sBy (fun a => decide (a.s = (u : Int))) A H = 1296000
                · simp (disch := omega) [Und, hv, ml, s0, -Bool.exists_bool, -Check_ok]
                  exact ⟨k - 1, by omega, u + 1, by omega, by omega, by omega, m2, fun w hw => (hm2 w (by omega)).stay ho fun i hi => hs2 w u (by omega) i hi, fun w hw h1 => by
                    by_cases e : w = u
                    · subst e; exact hv
                    · exact hsu w (by omega) h1⟩
                · have hno : ¬ clD t C A H := fun h => hv (h.2.2 u huC hc)
                  simp (disch := omega) [Und, hv, ml, s0, hno, -Bool.exists_bool, -Check_ok]
                  all_goals first | exact hcf | skip
          · obtain rfl : u = C.length := by omega
            have hlA : inA A H := ⟨hl, hb⟩
            have hyes : clD t C A H := ⟨hlA, hsum, hsu⟩
            simp (disch := omega) [Und, s0, hyes, -Bool.exists_bool, -Check_ok]
    · rw [if_neg hl]
      have hl' : ¬ (A.length : Int) = H.length := by omega
      have hl'' : ¬ (H.length : Int) = A.length := by omega
      refine fn_of' pl get18 (oo (by decide)) rfl rfl ?_
      simp (disch := omega) [eNet, hck, hl', hl'', Und, -Bool.exists_bool, -Check_ok]
  · rw [if_neg hok] at hck ⊢
    refine fn_of' pl get18 (oo (by decide)) rfl rfl ?_
    simp (disch := omega) [eNet, hck, Und, -Bool.exists_bool, -Check_ok]
end Go.Oct.Tri
