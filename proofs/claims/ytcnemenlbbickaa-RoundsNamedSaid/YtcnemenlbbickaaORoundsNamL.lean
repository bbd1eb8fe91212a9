/- RoundsNamed: it answers true at all arguments. -/
import Derived.Test.YtcnemenlbbickaaORoundsNamP
set_option maxRecDepth 100000
set_option maxHeartbeats 8000000
set_option linter.unusedVariables false
set_option linter.unusedSimpArgs false
namespace Go.Oct.Rounds
open Go.Oct
theorem swA_cells {a b : Int} (x : An) {u : Int} (hu : u = swT a b x.t) : [AV.int .i64 u, .int .i64 x.s, .int .i64 x.lo, .int .i64 x.hi] = (eAn (swA a b x)).cells := by subst hu; rfl
/-- What a call sees of a net whose angles lie in an object. -/
theorem net_snap {T : Int} {nC : Bool} {C : List Bool} {A : List An} {σ : AH} {o : Nat} (hcel : σ.cel o = some (rowOf eAn A)) : Snap σ (.agg [.int .i64 T, vl AV.bool nC C, .slice (some (o, 0)) A.length (.op 4)]) [o] (eNet T nC C false A) := by
  refine ⟨?_, fun S hS => ?_⟩
  · show [AV.int .i64 T, vl AV.bool nC C, .slice (some (o, 0)) A.length (.op 4)].flatMap (idsV 7 σ.cel) = [o]
    have e : idsV 7 σ.cel (.slice (some (o, 0)) A.length (.op 4)) = [o] := by
      show (match σ.cel o with | some cs => o :: cs.flatMap (idsV 6 σ.cel) | none => []) = _
      rw [hcel]
      have : (rowOf eAn A).flatMap (idsV 6 σ.cel) = [] := by
        rw [List.flatMap_eq_nil_iff]
        intro x hx
        exact (flat_row flatAn A x hx 5 _).1
      simp [this]
    simp only [List.flatMap_cons, List.flatMap_nil, e]
    rfl
  · have hce : σ.celOf S o = some (rowOf eAn A) := by
      unfold AH.celOf
      rw [if_pos (by simpa using hS o (by simp)), hcel]
    have := fz_whole encAn flatAn (f := σ.celOf S) (o := o) (xs := A) (c := .op 4) hce (.inl rfl) 5
    show AV.agg [AV.int .i64 T, vl AV.bool nC C, fzV 7 (σ.celOf S) (.slice (some (o, 0)) A.length (.op 4))] = _
    rw [this]
    rfl
theorem RoundsNamed_law (T : Int) (nC nA : Bool) (C : List Bool) (A : List An) (p q : Int) (hC : C.length < 2 ^ 62) (hA : A.length < 2 ^ 62) : ans prog O 9 [eNet T nC C nA A, .agg [.int .i64 p, .int .i64 q]] = some (.bool true) := by
  refine fn_of' pl get9 (oo (by decide)) rfl rfl ?_
  obtain ⟨v, hv, hsp⟩ := Spans_ok T nC C nA A hC hA
  obtain ⟨v2, hv2, hsu⟩ := Suspects_ok T nC C nA A hC hA
  have hso := sound_ok T nC C nA A hC hA
  unfold eNet at hsp hso hsu
  by_cases hok : okNet T C A
  · obtain ⟨N, rfl⟩ : ∃ N : Nat, T = N := ⟨T.toNat, by have := hok.1; omega⟩
    have hN := hok.1
    have hA3 := hok.2.2.1
    have p0 := Int.emod_nonneg p (show (N : Int) ≠ 0 by omega)
    have p1 := Int.emod_lt_of_pos p (show (0 : Int) < N by omega)
    have q0 := Int.emod_nonneg q (show (N : Int) ≠ 0 by omega)
    have q1 := Int.emod_lt_of_pos q (show (0 : Int) < N by omega)
    generalize ha : p % (N : Int) = a at p0 p1
    generalize hb : q % (N : Int) = b at q0 q1
    have hoth := okNet_oth hok ⟨p0, p1⟩ ⟨q0, q1⟩
    have hol := oth_len a b A
    obtain ⟨w, hw, hsp2⟩ := Spans_ok N nC C false (oth a b A) hC (by omega)
    obtain ⟨w2, hw2, hsu2⟩ := Suspects_ok N nC C false (oth a b A) hC (by omega)
    -- the answers, in both cases
    have both : ∃ (n1 n2 n3 n4 : Bool) (l m : List Span) (x y : List Int) (e f : Int), v = .tuple [vl eSpan n1 l, .int .i64 e] ∧ w = .tuple [vl eSpan n2 m, .int .i64 e] ∧ v2 = .tuple [vs n3 x, .int .i64 f] ∧ w2 = .tuple [vs n4 y, .int .i64 f] ∧
        l.length = m.length ∧ x.length = y.length ∧ l.length ≤ A.length ∧ x.length ≤ A.length ∧ (∀ j, j < l.length → nth l j = nth m (l.length - 1 - j)) ∧ (∀ j, j < x.length → nth x j = (A.length : Int) - 1 - nth y (x.length - 1 - j)) ∧ (∀ j, j < y.length → 0 ≤ nth y j ∧ nth y j < A.length) := by
      cases hv with
      | bad h => exact absurd hok h
      | none _ hpr =>
        have hno : ∀ h, ¬ isCl N C A h := fun h hc => not_proved hok hc hpr
        have hno2 : ∀ h, ¬ isCl N C (oth a b A) h := fun h hc => hno h.reverse ((isCl_oth hok ⟨p0, p1⟩ ⟨q0, q1⟩).1 (by rw [List.reverse_reverse]; exact hc))
        cases hv2 with
        | bad h => exact absurd hok h
        | none h _ hc => exact absurd hc (hno h)
        | ok nl _ _ =>
          cases hw with
          | bad h => exact absurd hoth h
          | ok l _ hl hs =>
            obtain ⟨⟨h, hc, _⟩, _⟩ := hs 0 (by omega)
            exact absurd hc (hno2 h)
          | none _ _ =>
            cases hw2 with
            | bad h => exact absurd hoth h
            | none h _ hc => exact absurd hc (hno2 h)
            | ok nl2 _ _ =>
              have hrev := susL_oth hok ⟨p0, p1⟩ ⟨q0, q1⟩
              have hxl : (susL N C A).length ≤ A.length := sel_len _ _
              refine ⟨true, true, nl, nl2, [], [], susL N C A, susL N C (oth a b A), 4, 0, rfl, rfl, rfl, rfl, rfl, by rw [hrev]; simp, by simp, hxl, fun j hj => by simp at hj, fun j hj => ?_, fun j hj => ?_⟩
              · rw [hrev, rev_nth (by simp; omega)]
                simp only [List.length_map]
                rw [nth_map (f := fun x => (A.length : Int) - 1 - x) (by omega), show (susL N C A).length - 1 - ((susL N C A).length - 1 - j) = j by omega]
                omega
              · have h1 := sel_rise (susF N C (oth a b A)) (oth a b A).length
                have h2 := rise_ge h1 j hj
                have h3 : nth (susL N C (oth a b A)) j < (((oth a b A).length : Nat) : Int) := (h1 j hj).2
                rw [hol] at h3
                exact ⟨h2, h3⟩
      | ok l _ hl hs =>
        obtain ⟨⟨h0, hc0, _⟩, _⟩ := hs 0 (by omega)
        have hc1 := (isCl_oth hok ⟨p0, p1⟩ ⟨q0, q1⟩).2 hc0
        cases hv2 with
        | bad h => exact absurd hok h
        | ok nl _ hno => exact absurd hc0 (hno h0)
        | none h _ hc =>
          cases hw with
          | bad h => exact absurd hoth h
          | none _ hpr => exact absurd hpr (not_proved hoth hc1)
          | ok m _ hm hs2 =>
            cases hw2 with
            | bad h => exact absurd hoth h
            | ok nl _ hno => exact absurd hc1 (hno _)
            | none h _ hc =>
              refine ⟨false, false, true, true, l, m, [], [], 0, 4, rfl, rfl, rfl, rfl, by omega, rfl, by omega, by simp, fun j hj => ?_, fun j hj => by simp at hj, fun j hj => by simp at hj⟩
              have h1 := isSpan_oth hok ⟨p0, p1⟩ ⟨q0, q1⟩ (j := A.length - 1 - j) (by omega) (hs2 (A.length - 1 - j) (by omega))
              rw [show A.length - 1 - (A.length - 1 - j) = j by omega] at h1
              rw [hl]
              exact isSpan_unique (hs j (by omega)) h1
    obtain ⟨n1, n2, n3, n4, l, m, x, y, e, f, rfl, rfl, rfl, rfl, hlm, hxy, hlA, hxA, hls, hxs, hyb⟩ := both
    simp (disch := omega) [eNet, hsp, hsu, hso, hok, ha, hb, Und, eqf1, eqf2, -Bool.exists_bool, -Check_ok]
    refine lp_loop pl (fun k fr τ => ∃ (i : Nat) (u : AV), k + i = A.length ∧ fr = ⟨[(2, .ptr (some (0, 0))), (5, vl eSpan n1 l), (6, .int .i64 e), (7, vs n3 x), (8, .int .i64 f), (9, .int .i64 a), (10, .int .i64 b), (11, .ptr (some (2, 0))), (12, .int .i64 ((A.length : Int) - 1 - i))], []⟩ ∧ τ.lim = 0 ∧ 3 ≤ τ.next ∧
        τ.get 0 = some (.cells [.int .i64 N, vl AV.bool nC C, vl eAn nA A]) ∧ τ.get 2 = some (.cells [.int .i64 N, vl AV.bool nC C, u]) ∧ Buf 3 4 eAn τ u ((oth a b A).take i))
      ⟨A.length, 0, .vsl true [], by omega, by simp, rfl, by simp, by simp, by simp, Buf.nil⟩ ?_
    rintro k _ τ ⟨i, u, hi, rfl, t0, tn, tg0, tg2, tb⟩
    have l0 := AH.get_lt tg0
    have l2 := AH.get_lt tg2
    obtain ⟨z1, z2, z3⟩ := buf_cel tb
    by_cases hiA : i < A.length
    · have c1 : (i : Int) ≤ (A.length : Int) - 1 := by omega
      have c2 : (A.length : Int) - 1 - i < A.length := by omega
      have c3 : ((A.length : Int) - 1 - i).toNat = A.length - 1 - i := by omega
      have hel : nth (oth a b A) i = swA a b (nth A (A.length - 1 - i)) := oth_nth hiA
      have htl : ((oth a b A).take i).length = i := by rw [List.length_take]; omega
      have hts : (oth a b A).take (i + 1) = (oth a b A).take i ++ [swA a b (nth A (A.length - 1 - i))] := by rw [take_succ_nth (by omega), hel]
      generalize hx : nth A (A.length - 1 - i) = xx at *
      have fin : ∀ (τ1 : AH) (uu : Int) (kk : AV → AH → Prop), uu = swT a b xx.t → τ1.lim = 0 → τ1.next = τ.next + 1 → (∀ z, z < τ.next → τ1.get z = τ.get z) →
          (∀ u' τ2, Buf 3 4 eAn τ2 u' ((oth a b A).take (i + 1)) → τ2.lim = 0 → τ.next ≤ τ2.next → τ2.get 0 = some (.cells [.int .i64 N, vl AV.bool nC C, vl eAn nA A]) → τ2.get 2 = some (.cells [.int .i64 N, vl AV.bool nC C, u]) → kk u' τ2) →
          OptK2 (aappend 4 32 u (.slice (some (τ1.next, 0)) 1 (.ex 1)) (τ1.push (.cells [.int .i64 uu, .int .i64 xx.s, .int .i64 xx.lo, .int .i64 xx.hi]))) kk := fun τ1 uu kk hu h0 hn hg hkk => by
        refine (tb.keep (σ' := τ1) fun z _ hz => hg z hz).push encAn (by omega) (by omega) (swA a b xx) (by rw [htl]; simp only [topBytes]; omega) (swA_cells xx hu) fun u' τ2 q1 q2 => ?_
        exact hkk u' τ2 (by rw [hts]; exact q1) (q2.lim.trans h0) (by have := q2.next; omega) (by rw [q2.get 0 (by omega), hg 0 (by omega)]; exact tg0) (by rw [q2.get 2 (by omega), hg 2 (by omega)]; exact tg2)
      have nxt : ∀ (u' : AV) (τ2 : AH), Buf 3 4 eAn τ2 u' ((oth a b A).take (i + 1)) → τ2.lim = 0 → τ.next ≤ τ2.next → τ2.get 0 = some (.cells [.int .i64 N, vl AV.bool nC C, vl eAn nA A]) → τ2.get 2 = some (.cells [.int .i64 N, vl AV.bool nC C, u]) → Buf 3 4 eAn (τ2.set 2 (.cells [.int .i64 N, vl AV.bool nC C, u'])) u' ((oth a b A).take (i + 1)) := fun u' τ2 q1 _ _ _ _ => q1.keep fun z h1 h2 => AH.get_set_other _ _ _ _ (by omega)
      by_cases h1 : xx.t = a
      · simp (disch := omega) [Und, eqf1, eqf2, t0, tg0, tg2, c1, c2, c3, hx, eq_true h1, -Bool.exists_bool]
        generalize hτ1 : AH.set (AH.set (AH.push τ _) τ.next _) τ.next _ = τ1
        have hn1 : τ1.next = τ.next + 1 := by rw [← hτ1]; rfl
        rw [← hn1]
        refine fin τ1 b _ (by unfold swT; rw [if_pos h1]) (by rw [← hτ1]; exact t0) hn1 (fun z hz => by rw [← hτ1, AH.get_set_other _ _ _ _ (by omega), AH.get_set_other _ _ _ _ (by omega), AH.get_push_old _ _ _ (by omega)]) fun u' τ2 q1 q2 q3 q4 q5 => ?_
        obtain ⟨y1, y2, y3⟩ := buf_cel q1
        have l22 := AH.get_lt q5
        simp (disch := omega) [Und, eqf1, eqf2, q2, q5, l22, y1, y2, y3, -Bool.exists_bool]
        exact ⟨k - 1, by omega, i + 1, by omega, by omega, by omega, q4, nxt u' τ2 q1 q2 q3 q4 q5⟩
      · by_cases h2 : xx.t = b
        · simp (disch := omega) [Und, eqf1, eqf2, t0, tg0, tg2, c1, c2, c3, hx, h1, eq_true h2, -Bool.exists_bool]
          generalize hτ1 : AH.set (AH.set (AH.push τ _) τ.next _) τ.next _ = τ1
          have hn1 : τ1.next = τ.next + 1 := by rw [← hτ1]; rfl
          rw [← hn1]
          refine fin τ1 a _ (by unfold swT; rw [if_neg h1, if_pos h2]) (by rw [← hτ1]; exact t0) hn1 (fun z hz => by rw [← hτ1, AH.get_set_other _ _ _ _ (by omega), AH.get_set_other _ _ _ _ (by omega), AH.get_push_old _ _ _ (by omega)]) fun u' τ2 q1 q2 q3 q4 q5 => ?_
          obtain ⟨y1, y2, y3⟩ := buf_cel q1
          have l22 := AH.get_lt q5
          simp (disch := omega) [Und, eqf1, eqf2, q2, q5, l22, y1, y2, y3, -Bool.exists_bool]
          exact ⟨k - 1, by omega, i + 1, by omega, by omega, by omega, q4, nxt u' τ2 q1 q2 q3 q4 q5⟩
        · simp (disch := omega) [Und, eqf1, eqf2, t0, tg0, tg2, c1, c2, c3, hx, h1, h2, -Bool.exists_bool]
          generalize hτ1 : AH.set (AH.push τ _) τ.next _ = τ1
          have hn1 : τ1.next = τ.next + 1 := by rw [← hτ1]; rfl
          rw [← hn1]
          refine fin τ1 xx.t _ (by unfold swT; rw [if_neg h1, if_neg h2]) (by rw [← hτ1]; exact t0) hn1 (fun z hz => by rw [← hτ1, AH.get_set_other _ _ _ _ (by omega), AH.get_push_old _ _ _ (by omega)]) fun u' τ2 q1 q2 q3 q4 q5 => ?_
          obtain ⟨y1, y2, y3⟩ := buf_cel q1
          have l22 := AH.get_lt q5
          simp (disch := omega) [Und, eqf1, eqf2, q2, q5, l22, y1, y2, y3, -Bool.exists_bool]
          exact ⟨k - 1, by omega, i + 1, by omega, by omega, by omega, q4, nxt u' τ2 q1 q2 q3 q4 q5⟩
    · obtain rfl : i = A.length := by omega
      have c1 : ¬ (A.length : Int) ≤ (A.length : Int) - 1 := by omega
      have hta : (oth a b A).take A.length = oth a b A := List.take_of_length_le (by omega)
      rw [hta] at tb
      rcases tb with ⟨_, hx⟩ | ⟨o, rfl, o3, og, _⟩
      · rw [hx] at hol; simp at hol; omega
      simp (disch := omega) [Und, eqf1, eqf2, t0, tg0, tg2, c1, -Bool.exists_bool]
      refine pc_ro (.cons (net_snap (A := oth a b A) (AH.cel_get og)) .nil) (fun h => by cases h) (by simp) (oo (args := []) (by decide)).1 (fun z hz => by rw [t0]; exact Nat.zero_le _) hsp2 fun τ1 o1 ce1 => ?_
      have v2 : τ1.get 2 = _ := (o1.get 2 l2 (by simp; omega)).trans tg2
      have v0 := o1.lim.trans t0
      have v00 : τ1.get 0 = _ := (o1.get 0 l0 (by simp; omega)).trans tg0
      have lv2 := AH.get_lt v2
      have lv0 := AH.get_lt v00
      simp (disch := omega) [Und, eqf1, eqf2, v0, v2, -Bool.exists_bool]
      refine pc_ro (.cons (net_snap (A := oth a b A) ((ce1 o).trans (AH.cel_get og))) .nil) (fun h => by cases h) (by simp) (oo (args := []) (by decide)).1 (fun z hz => by rw [v0]; exact Nat.zero_le _) hsu2 fun τ2 o2 ce2 => ?_
      have u0 := o2.lim.trans v0
      have u00 : τ2.get 0 = _ := (o2.get 0 lv0 (by simp; omega)).trans v00
      have hlm' : (l.length : Int) = m.length := by omega
      have hxy' : (x.length : Int) = y.length := by omega
      simp (disch := omega) [Und, eqf1, eqf2, u0, eq_true hlm', eq_true hxy', hlm, hxy, -Bool.exists_bool]
      refine lp_loop pl (fun k fr υ => ∃ j : Nat, k + j = l.length ∧ fr = ⟨[(2, .ptr (some (0, 0))), (5, vl eSpan n1 l), (7, vs n3 x), (14, vl eSpan n2 m), (16, vs n4 y), (18, .int .i64 j)], []⟩ ∧ υ = τ2)
        ⟨l.length, 0, by omega, rfl, rfl⟩ ?_
      rintro k2 _ υ ⟨j, hj, rfl, hυ⟩
      rw [hυ]
      clear hυ υ
      by_cases hjl : j < l.length
      · have d1 : (j : Int) < l.length := by omega
        have d1' : (j : Int) < m.length := by omega
        have d2 : (j : Int) ≤ (m.length : Int) - 1 := by omega
        have d3 : (m.length : Int) - 1 - j < m.length := by omega
        have d4 : ((m.length : Int) - 1 - j).toNat = l.length - 1 - j := by omega
        have d5 := hls j hjl
        simp (disch := omega) [Und, eqf1, eqf2, u0, d1, d1', d2, d3, d4, d5, -Bool.exists_bool]
        exact ⟨k2 - 1, by omega, j + 1, by omega, by omega⟩
      · obtain rfl : j = l.length := by omega
        simp (disch := omega) [Und, eqf1, eqf2, u0, -Bool.exists_bool]
        refine lp_loop pl (fun k fr υ => ∃ j : Nat, k + j = x.length ∧ fr = ⟨[(2, .ptr (some (0, 0))), (7, vs n3 x), (16, vs n4 y), (19, .int .i64 j)], []⟩ ∧ υ = τ2)
          ⟨x.length, 0, by omega, rfl, rfl⟩ ?_
        rintro k3 _ υ ⟨j, hj, rfl, hυ⟩
        rw [hυ]
        clear hυ υ
        by_cases hjx : j < x.length
        · have d1 : (j : Int) < x.length := by omega
          have d1' : (j : Int) < y.length := by omega
          have d2 : (j : Int) ≤ (y.length : Int) - 1 := by omega
          have d3 : (y.length : Int) - 1 - j < y.length := by omega
          have d4 : ((y.length : Int) - 1 - j).toNat = x.length - 1 - j := by omega
          have d5 := hxs j hjx
          have d6 := hyb (x.length - 1 - j) (by omega)
          simp (disch := omega) [Und, eqf1, eqf2, u0, u00, d1, d1', d2, d3, d4, d5, -Bool.exists_bool]
          exact ⟨k3 - 1, by omega, j + 1, by omega, by omega⟩
        · obtain rfl : j = x.length := by omega
          simp (disch := omega) [Und, eqf1, eqf2, u0, -Bool.exists_bool]
  · have hb1 : v = .tuple [vl eSpan true [], .int .i64 60] := by
      cases hv with
      | bad h => rfl
      | none h _ => exact absurd h hok
      | ok l h _ _ => exact absurd h hok
    have hb2 : v2 = .tuple [vs true [], .int .i64 60] := by
      cases hv2 with
      | bad h => rfl
      | none _ h _ => exact absurd h hok
      | ok _ h _ => exact absurd h hok
    subst hb1 hb2
    simp (disch := omega) [eNet, hsp, hsu, hso, hok, Und, eqf1, eqf2, -Bool.exists_bool, -Check_ok]
theorem RoundsNamed_ok (T : Int) (nC nA : Bool) (C : List Bool) (A : List An) (p q : Int) (hT : i64 T) {x y : AV} (hC : Slice AV.bool (fun _ => True) x nC C) (hA : Slice eAn anOK y nA A) (hp : i64 p) (hq : i64 q) : ans prog O 9 [.agg [.int .i64 T, vl AV.bool nC C, vl eAn nA A], .agg [.int .i64 p, .int .i64 q]] = some (.bool true) := by
  have h1 := hC.len
  have h2 := hA.len
  exact RoundsNamed_law T nC nA C A p q (by omega) (by omega)
end Go.Oct.Rounds
