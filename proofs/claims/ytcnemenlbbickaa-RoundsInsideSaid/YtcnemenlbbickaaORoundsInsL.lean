/- RoundsInside: it answers true at all arguments. -/
import Derived.Test.YtcnemenlbbickaaORoundsClo
import Derived.Test.YtcnemenlbbickaaORoundsEndL
import Derived.Test.YtcnemenlbbickaaORoundsChz
set_option maxRecDepth 100000
set_option maxHeartbeats 8000000
set_option linter.unusedVariables false
set_option linter.unusedSimpArgs false
namespace Go.Oct.Rounds
open Go.Oct
theorem encBo : Enc AV.bool 1 := ⟨fun _ => rfl, fun _ => rfl, fun _ => rfl, by decide⟩
theorem flatBo : flatE AV.bool := fun x c hc k f => by
  obtain rfl := List.mem_singleton.1 hc
  exact ⟨rfl, rfl⟩
theorem net_snapC {T : Int} {C : List Bool} {nA : Bool} {A : List An} {σ : AH} {o : Nat} {c : ACap} (hcel : σ.cel o = some (rowOf AV.bool C)) (hc : c = .op 1 ∨ c = .ex C.length) : Snap σ (.agg [.int .i64 T, .slice (some (o, 0)) C.length c, vl eAn nA A]) [o] (eNet T false C nA A) := by
  refine ⟨?_, fun S hS => ?_⟩
  · show [AV.int .i64 T, .slice (some (o, 0)) C.length c, vl eAn nA A].flatMap (idsV 7 σ.cel) = [o]
    have e : idsV 7 σ.cel (.slice (some (o, 0)) C.length c) = [o] := by
      show (match σ.cel o with | some cs => o :: cs.flatMap (idsV 6 σ.cel) | none => []) = _
      rw [hcel]
      have : (rowOf AV.bool C).flatMap (idsV 6 σ.cel) = [] := by
        rw [List.flatMap_eq_nil_iff]
        intro x hx
        exact (flat_row flatBo C x hx 5 _).1
      simp [this]
    simp only [List.flatMap_cons, List.flatMap_nil, e]
    rfl
  · have hce : σ.celOf S o = some (rowOf AV.bool C) := by
      unfold AH.celOf
      rw [if_pos (by simpa using hS o (by simp)), hcel]
    have := fz_whole encBo flatBo (f := σ.celOf S) (o := o) (xs := C) (c := c) hce hc 5
    show AV.agg [AV.int .i64 T, fzV 7 (σ.celOf S) (.slice (some (o, 0)) C.length c), vl eAn nA A] = _
    rw [this]
    rfl
theorem rowB (C : List Bool) : rowOf AV.bool C = C.map AV.bool := by
  induction C with
  | nil => rfl
  | cons b C ih => show AV.bool b :: rowOf AV.bool C = _; rw [ih]; rfl
theorem rowB_set (C : List Bool) (q : Nat) (b : Bool) : (rowOf AV.bool C).set q (.bool b) = rowOf AV.bool (C.set q b) := by
  rw [rowB, rowB, List.map_set]
section
variable {N : Nat} {C : List Bool} {A : List An}
theorem okNet_setC (hok : okNet N C A) (q : Nat) : okNet N (C.set q true) A := by
  unfold okNet at hok ⊢
  simpa using hok
theorem isCl_setC (hok : okNet N C A) {q : Nat} {h : List Int} (hc : isCl N (C.set q true) A h) : isCl N C A h := by
  rw [← clD_iff (okNet_setC hok q)] at hc
  rw [← clD_iff hok]
  obtain ⟨h1, h2, h3⟩ := hc
  refine ⟨h1, h2, fun s hs hb => h3 s (by simpa using hs) ?_⟩
  by_cases e : s = q
  · subst e; rw [nth_set hs, if_pos rfl]
  · by_cases hq : q < C.length
    · rw [nth_set hq, if_neg e]; exact hb
    · rw [List.set_eq_of_length_le (by omega)]; exact hb
/-- Narrower nets have narrower spans. -/
theorem span_sub {C' : List Bool} {A' : List An} (hsub : ∀ h, isCl N C' A' h → isCl N C A h) {k : Nat} {s t : Span} (hs : IsSpan N C A k s) (ht : IsSpan N C' A' k t) : s.lo ≤ t.lo ∧ t.hi ≤ s.hi := by
  obtain ⟨⟨ha, hac, hae⟩, ⟨hb, hbc, hbe⟩, hall⟩ := ht
  have h1 := hs.all ha (hsub ha hac)
  have h2 := hs.all hb (hsub hb hbc)
  omega
end
/-- What the law knows when it comes to the second net. -/
theorem span_none {N : Nat} {C : List Bool} {A : List An} (hok : okNet N C A) {C' : List Bool} {A' : List An} (hok2 : okNet N C' A') (hsub : ∀ h, isCl N C' A' h → isCl N C A h) (hpd : Proved N C A) {v' : AV} (hv' : SpansV N C' A' v') : v' = .tuple [vl eSpan true [], .int .i64 4] := by
  have hA3 := hok2.2.2.1
  have hN := hok2.1
  cases hv' with
  | bad h => exact absurd hok2 h
  | none _ _ => rfl
  | ok m _ hlm hs2 =>
    obtain ⟨⟨f, hf, _⟩, _, _⟩ := hs2 0 (by omega)
    exact absurd hpd (not_proved hok (hsub f hf))
theorem span_ok {N : Nat} {C : List Bool} {A : List An} {C' : List Bool} {A' : List An} (hok2 : okNet N C' A') (hlA : A'.length = A.length) (hsub : ∀ h, isCl N C' A' h → isCl N C A h) {l : List Span} (hs : ∀ k, k < A.length → IsSpan N C A k (nth l k)) {v' : AV} (hv' : SpansV N C' A' v') :
    v' = .tuple [vl eSpan true [], .int .i64 4] ∨ ∃ m : List Span, m.length = A.length ∧ v' = .tuple [vl eSpan false m, .int .i64 0] ∧ ∀ k, k < A.length → (nth l k).lo ≤ (nth m k).lo ∧ (nth m k).hi ≤ (nth l k).hi := by
  cases hv' with
  | bad h => exact absurd hok2 h
  | none _ _ => exact .inl rfl
  | ok m _ hlm hs2 => exact .inr ⟨m, hlm.trans hlA, rfl, fun k hk => span_sub hsub (hs k hk) (hs2 k (by omega))⟩
theorem pCloses_bad (T : Int) (nC : Bool) (C : List Bool) (nA : Bool) (A : List An) (nH : Bool) (H : List Int) (hC : C.length < 2 ^ 62) (hA : A.length < 2 ^ 62) (hok : ¬ okNet T C A) : ans prog O 37 [eNet T nC C nA A, vs nH H] = some (.tuple [.bool false, .int .i64 60]) := by
  have hck := Check_ok T nC C nA A hC hA
  unfold eNet at hck
  rw [if_neg hok] at hck
  refine fn_of' pl get37 (oo (by decide)) rfl rfl ?_
  simp (disch := omega) [eNet, hck, Und, -Bool.exists_bool, -Check_ok]
theorem RoundsInside_law (T : Int) (nC nA : Bool) (C : List Bool) (A : List An) (nH : Bool) (H : List Int) (x y z : Int) (hC : C.length < 2 ^ 62) (hA : A.length < 2 ^ 62) (hH : H.length < 2 ^ 62) :
    ans prog O 12 [eNet T nC C nA A, vs nH H, .agg [.int .i64 x, .int .i64 y, .int .i64 z]] = some (.bool true) := by
  refine fn_of' pl get12 (oo (by decide)) rfl rfl ?_
  obtain ⟨v, hv, hsp⟩ := Spans_ok T nC C nA A hC hA
  have hso := sound_ok T nC C nA A hC hA
  unfold eNet at hsp hso
  by_cases hok : okNet T C A
  · obtain ⟨N, rfl⟩ : ∃ N : Nat, T = N := ⟨T.toNat, by have := hok.1; omega⟩
    have hN := hok.1
    have hC8 := hok.2.1
    have hA3 := hok.2.2.1
    obtain ⟨b, c, hcl, hb⟩ : ∃ b c, ans prog O 37 [eNet N nC C nA A, vs nH H] = some (.tuple [.bool b, .int .i64 c]) ∧ (b = true → clD N C A H) := by
      have := pCloses_ok N nC C nA A nH H hC hA hH
      rw [if_pos hok] at this
      by_cases hl : H.length = A.length
      · rw [if_pos hl] at this
        exact ⟨_, _, this, fun h => of_decide_eq_true h⟩
      · rw [if_neg hl] at this
        exact ⟨_, _, this, fun h => by cases h⟩
    unfold eNet at hcl
    cases hv with
    | bad h => exact absurd hok h
    | none _ hpd =>
      obtain rfl : b = false := by
        cases b with
        | false => rfl
        | true => exact absurd hpd (not_proved hok ((clD_iff hok).1 (hb rfl)))
      simp (disch := omega) [eNet, hsp, hso, hcl, hok, Und, eqf1, eqf2, -Bool.exists_bool, -Check_ok]
      refine lp_loop pl (fun k fr σ => fr = ⟨[(1, vs nH H), (3, .ptr (some (0, 0))), (5, .ptr (some (1, 0))), (7, vl eSpan true []), (8, .int .i64 4), (9, .bool false), (11, .int .i64 0)], []⟩ ∧ σ.lim = 0 ∧ 2 ≤ σ.next ∧ σ.get 0 = some (.cells [.int .i64 N, vl AV.bool nC C, vl eAn nA A]) ∧ σ.get 1 = some (.cells [.int .i64 x, .int .i64 y, .int .i64 z]))
        ⟨0, rfl, rfl, by simp, by simp, by simp⟩ ?_
      rintro k _ σ ⟨rfl, s0, sn, sg0, sg1⟩
      have l0 := AH.get_lt sg0
      have l1 := AH.get_lt sg1
      have l9 : σ.next < σ.next + 1 + 1 := by omega
      by_cases hx : x % 2 = 0
      · obtain ⟨q, hq, hqC⟩ : ∃ q : Nat, y % (C.length : Int) = q ∧ q < C.length := by
          have h0 := Int.emod_nonneg y (show (C.length : Int) ≠ 0 by omega)
          have h1 := Int.emod_lt_of_pos y (show (0 : Int) < C.length by omega)
          exact ⟨(y % (C.length : Int)).toNat, by omega, by omega⟩
        obtain ⟨v', hv', hsp'⟩ := Spans_ok N false (C.set q true) nA A (by simpa using hC) hA
        have hfin := span_none hok (okNet_setC hok q) (fun h => isCl_setC hok) hpd hv'
        simp (disch := omega) [Und, eqf1, eqf2, s0, sg0, sg1, l0, l1, l9, hx, -Bool.exists_bool, -Check_ok]
        generalize hυ : AH.set (σ.push _) σ.next _ = υ
        have u0 : υ.lim = 0 := by rw [← hυ]; exact s0
        have un : υ.next = σ.next + 1 := by rw [← hυ]; rfl
        have ug : ∀ z, z < σ.next → υ.get z = σ.get z := fun z hz => by rw [← hυ, AH.get_set_other _ _ _ _ (by omega), AH.get_push_old _ _ _ (by omega)]
        have u9 : υ.get σ.next = some (.cells [.int .i64 N, vl AV.bool nC C, vl eAn nA A]) := by rw [← hυ, AH.get_set_same _ _ _ (Nat.lt_succ_self _)]
        clear hυ
        refine lit0_app (lo := σ.next + 1) (σ := υ.push (.cells [])) (ys := C) (e := AV.bool) encBo (Nat.le_refl _) (by show σ.next + 1 ≤ υ.next + 1; omega) (by rw [← un]; exact AH.get_push_new _ _) (vl_src encBo nC C) (by simp only [topBytes]; omega) fun w σ1 w1 w2 w3 => ?_
        obtain ⟨o, c, rfl, o3, g, hc⟩ := w1
        have x0 : σ1.lim = 0 := w2.lim.trans u0
        have xn := w2.next
        simp at xn
        have xg : ∀ z, z < υ.next → σ1.get z = υ.get z := fun z hz => by rw [w2.get z (by simp; omega) (by simp), AH.get_push_old _ _ _ (by omega)]
        have x9 : σ1.get σ.next = _ := (xg _ (by omega)).trans u9
        have xg0 : σ1.get 0 = _ := ((xg 0 (by omega)).trans (ug 0 l0)).trans sg0
        have xg1 : σ1.get 1 = _ := ((xg 1 (by omega)).trans (ug 1 l1)).trans sg1
        have lo := AH.get_lt g
        have lx9 := AH.get_lt x9
        have rl := rowOf_length encBo C
        have rs := rowB_set C q true
        have ne1 : ¬ o = σ.next := by omega
        have ne2 : ¬ o = 0 := by omega
        have ne3 : ¬ o = 1 := by omega
        have ne4 : ¬ σ.next = 0 := by omega
        have ne5 : ¬ σ.next = 1 := by omega
        have ne6 : ¬ σ.next = o := by omega
        have hqC' : (q : Int) < C.length := by omega
        have q1' : q + 1 ≤ C.length := by omega
        simp at rs rl
        simp (disch := omega) [Und, eqf1, eqf2, x0, x9, xg0, xg1, g, rl, rs, hq, hqC', q1', lo, lx9, ne1, ne2, ne3, ne4, ne5, ne6, -Bool.exists_bool, -Check_ok, -getElem?_pos]
        generalize hτ : AH.set (AH.under (AH.set σ1 _ _) _) o _ = τ
        have t0 : τ.lim = 0 := by rw [← hτ]; rfl
        have tg : τ.get o = some (.cells (rowOf AV.bool (C.set q true))) := by rw [← hτ]; exact AH.get_set_same _ _ _ (by show o < σ1.next; exact lo)
        have tl : C.length = (C.set q true).length := by simp
        rw [tl]
        refine pc_ro (.cons (net_snapC (AH.cel_get tg) (by rw [← tl]; exact hc)) .nil) (fun h => by cases h) (by simp) (oo (args := []) (by decide)).1 (fun z hz => by rw [t0]; exact Nat.zero_le _) hsp' fun τ2 o2 ce2 => ?_
        have v0 := o2.lim.trans t0
        subst hfin
        simp (disch := omega) [Und, eqf1, eqf2, v0, -Bool.exists_bool, -Check_ok]
      · obtain ⟨q, hq, hqA⟩ : ∃ q : Nat, y % (A.length : Int) = q ∧ q < A.length := by
          have h0 := Int.emod_nonneg y (show (A.length : Int) ≠ 0 by omega)
          have h1 := Int.emod_lt_of_pos y (show (0 : Int) < A.length by omega)
          exact ⟨(y % (A.length : Int)).toNat, by omega, by omega⟩
        obtain ⟨_, _, o3, o4, o5⟩ := hok.2.2.2.1 q hqA
        have hz := chz_in (l := (nth A q).lo) (h := (nth A q).hi) (n := z) o4
        obtain ⟨v', hv', hsp'⟩ := Spans_ok N nC C false (setA A q (chz (nth A q).lo (nth A q).hi z) (nth A q).hi) hC (by rw [setA_len]; exact hA)
        have hfin := span_none hok (okNet_setA hok hqA (by omega) (by omega) (by omega)) (fun h hc => ((isCl_sub hqA hz.1 (Int.le_refl _)).1 hc).1) hpd hv'
        have hwi := with_ok N nC C nA A q (chz (nth A q).lo (nth A q).hi z) (nth A q).hi hqA (by omega)
        unfold eNet at hwi hsp'
        have hqA' : (q : Int) < A.length := by omega
        subst hfin
        simp (disch := omega) [Und, eqf1, eqf2, s0, sg0, sg1, l0, l1, l9, hx, hq, hqA', hwi, hsp', -Bool.exists_bool, -Check_ok]
    | ok l _ hll hs =>
      have hll' : (l.length : Int) = A.length := by omega
      simp (disch := omega) [eNet, hsp, hso, hcl, hok, eq_true hll', hll', Und, eqf1, eqf2, -Bool.exists_bool, -Check_ok]
      refine lp_loop pl (fun k fr σ => ∃ i : Nat, k + i = A.length ∧ fr = ⟨[(1, vs nH H), (3, .ptr (some (0, 0))), (5, .ptr (some (1, 0))), (7, vl eSpan false l), (8, .int .i64 0), (9, .bool b), (11, .int .i64 i)], []⟩ ∧ σ.lim = 0 ∧ 2 ≤ σ.next ∧ σ.get 0 = some (.cells [.int .i64 N, vl AV.bool nC C, vl eAn nA A]) ∧ σ.get 1 = some (.cells [.int .i64 x, .int .i64 y, .int .i64 z]))
        ⟨A.length, 0, by omega, rfl, rfl, by simp, by simp, by simp⟩ ?_
      rintro k _ σ ⟨i, hi, rfl, s0, sn, sg0, sg1⟩
      have l0 := AH.get_lt sg0
      have l1 := AH.get_lt sg1
      cases b with
      | false =>
        have l9 : σ.next < σ.next + 1 + 1 := by omega
        by_cases hx : x % 2 = 0
        · obtain ⟨q, hq, hqC⟩ : ∃ q : Nat, y % (C.length : Int) = q ∧ q < C.length := by
            have h0 := Int.emod_nonneg y (show (C.length : Int) ≠ 0 by omega)
            have h1 := Int.emod_lt_of_pos y (show (0 : Int) < C.length by omega)
            exact ⟨(y % (C.length : Int)).toNat, by omega, by omega⟩
          obtain ⟨v', hv', hsp'⟩ := Spans_ok N false (C.set q true) nA A (by simpa using hC) hA
          have hfin := span_ok (okNet_setC hok q) rfl (fun h => isCl_setC hok) hs hv'
          simp (disch := omega) [Und, eqf1, eqf2, s0, sg0, sg1, l0, l1, l9, hx, -Bool.exists_bool, -Check_ok]
          generalize hυ : AH.set (σ.push _) σ.next _ = υ
          have u0 : υ.lim = 0 := by rw [← hυ]; exact s0
          have un : υ.next = σ.next + 1 := by rw [← hυ]; rfl
          have ug : ∀ z, z < σ.next → υ.get z = σ.get z := fun z hz => by rw [← hυ, AH.get_set_other _ _ _ _ (by omega), AH.get_push_old _ _ _ (by omega)]
          have u9 : υ.get σ.next = some (.cells [.int .i64 N, vl AV.bool nC C, vl eAn nA A]) := by rw [← hυ, AH.get_set_same _ _ _ (Nat.lt_succ_self _)]
          clear hυ
          refine lit0_app (lo := σ.next + 1) (σ := υ.push (.cells [])) (ys := C) (e := AV.bool) encBo (Nat.le_refl _) (by show σ.next + 1 ≤ υ.next + 1; omega) (by rw [← un]; exact AH.get_push_new _ _) (vl_src encBo nC C) (by simp only [topBytes]; omega) fun w σ1 w1 w2 w3 => ?_
          obtain ⟨o, c, rfl, o3, g, hc⟩ := w1
          have x0 : σ1.lim = 0 := w2.lim.trans u0
          have xn := w2.next
          simp at xn
          have xg : ∀ z, z < υ.next → σ1.get z = υ.get z := fun z hz => by rw [w2.get z (by simp; omega) (by simp), AH.get_push_old _ _ _ (by omega)]
          have x9 : σ1.get σ.next = _ := (xg _ (by omega)).trans u9
          have xg0 : σ1.get 0 = _ := ((xg 0 (by omega)).trans (ug 0 l0)).trans sg0
          have xg1 : σ1.get 1 = _ := ((xg 1 (by omega)).trans (ug 1 l1)).trans sg1
          have lo := AH.get_lt g
          have lx9 := AH.get_lt x9
          have rl := rowOf_length encBo C
          have rs := rowB_set C q true
          have ne1 : ¬ o = σ.next := by omega
          have ne2 : ¬ o = 0 := by omega
          have ne3 : ¬ o = 1 := by omega
          have ne4 : ¬ σ.next = 0 := by omega
          have ne5 : ¬ σ.next = 1 := by omega
          have ne6 : ¬ σ.next = o := by omega
          have hqC' : (q : Int) < C.length := by omega
          have q1' : q + 1 ≤ C.length := by omega
          simp at rs rl
          simp (disch := omega) [Und, eqf1, eqf2, x0, x9, xg0, xg1, g, rl, rs, hq, hqC', q1', lo, lx9, ne1, ne2, ne3, ne4, ne5, ne6, -Bool.exists_bool, -Check_ok, -getElem?_pos]
          generalize hτ : AH.set (AH.under (AH.set σ1 _ _) _) o _ = τ
          have t0 : τ.lim = 0 := by rw [← hτ]; rfl
          have tg : τ.get o = some (.cells (rowOf AV.bool (C.set q true))) := by rw [← hτ]; exact AH.get_set_same _ _ _ (by show o < σ1.next; exact lo)
          have tl : C.length = (C.set q true).length := by simp
          rw [tl]
          refine pc_ro (.cons (net_snapC (AH.cel_get tg) (by rw [← tl]; exact hc)) .nil) (fun h => by cases h) (by simp) (oo (args := []) (by decide)).1 (fun z hz => by rw [t0]; exact Nat.zero_le _) hsp' fun τ2 o2 ce2 => ?_
          have v0 := o2.lim.trans t0
          rcases hfin with rfl | ⟨m, hm, rfl, hle⟩
          · simp (disch := omega) [Und, eqf1, eqf2, v0, -Bool.exists_bool, -Check_ok]
          · have hlm' : (m.length : Int) = l.length := by omega
            simp (disch := omega) [Und, eqf1, eqf2, v0, eq_true hlm', -Bool.exists_bool, -Check_ok]
            refine lp_loop pl (fun k fr υ => ∃ j : Nat, k + j = l.length ∧ fr = ⟨[(7, vl eSpan false l), (16, vl eSpan false m), (18, .int .i64 j)], []⟩ ∧ υ.lim = 0) ⟨l.length, 0, by omega, rfl, v0⟩ ?_
            rintro k9 _ υ ⟨j, hj, rfl, u0⟩
            by_cases hjl : j < l.length
            · have d1 : (j : Int) < l.length := by omega
              have d2 : (j : Int) < m.length := by omega
              have d3 := hle j (by omega)
              have d4 : ¬ (nth m j).lo < (nth l j).lo := by omega
              have d5 : ¬ (nth l j).hi < (nth m j).hi := by omega
              simp (disch := omega) [Und, eqf1, eqf2, u0, d1, d2, d4, d5, -Bool.exists_bool, -Check_ok]
              exact ⟨k9 - 1, by omega, j + 1, by omega, by omega⟩
            · obtain rfl : j = l.length := by omega
              simp (disch := omega) [Und, eqf1, eqf2, u0, -Bool.exists_bool, -Check_ok]
        · obtain ⟨q, hq, hqA⟩ : ∃ q : Nat, y % (A.length : Int) = q ∧ q < A.length := by
            have h0 := Int.emod_nonneg y (show (A.length : Int) ≠ 0 by omega)
            have h1 := Int.emod_lt_of_pos y (show (0 : Int) < A.length by omega)
            exact ⟨(y % (A.length : Int)).toNat, by omega, by omega⟩
          obtain ⟨_, _, o3, o4, o5⟩ := hok.2.2.2.1 q hqA
          have hz := chz_in (l := (nth A q).lo) (h := (nth A q).hi) (n := z) o4
          obtain ⟨v', hv', hsp'⟩ := Spans_ok N nC C false (setA A q (chz (nth A q).lo (nth A q).hi z) (nth A q).hi) hC (by rw [setA_len]; exact hA)
          have hfin := span_ok (okNet_setA hok hqA (by omega) (by omega) (by omega)) (setA_len ..) (fun h hc => ((isCl_sub hqA hz.1 (Int.le_refl _)).1 hc).1) hs hv'
          have hwi := with_ok N nC C nA A q (chz (nth A q).lo (nth A q).hi z) (nth A q).hi hqA (by omega)
          unfold eNet at hwi hsp'
          have hqA' : (q : Int) < A.length := by omega
          rcases hfin with rfl | ⟨m, hm, rfl, hle⟩
          · simp (disch := omega) [Und, eqf1, eqf2, s0, sg0, sg1, l0, l1, l9, hx, hq, hqA', hwi, hsp', -Bool.exists_bool, -Check_ok]
          · have hlm0 : (m.length : Int) = l.length := by omega
            simp (disch := omega) [Und, eqf1, eqf2, s0, sg0, sg1, l0, l1, l9, hx, hq, hqA', hwi, hsp', eq_true hlm0, -Bool.exists_bool, -Check_ok]
            refine lp_loop pl (fun k fr υ => ∃ j : Nat, k + j = l.length ∧ fr = ⟨[(7, vl eSpan false l), (16, vl eSpan false m), (18, .int .i64 j)], []⟩ ∧ υ.lim = 0) ⟨l.length, 0, by omega, rfl, rfl⟩ ?_
            rintro k9 _ υ ⟨j, hj, rfl, u0⟩
            by_cases hjl : j < l.length
            · have d1 : (j : Int) < l.length := by omega
              have d2 : (j : Int) < m.length := by omega
              have d3 := hle j (by omega)
              have d4 : ¬ (nth m j).lo < (nth l j).lo := by omega
              have d5 : ¬ (nth l j).hi < (nth m j).hi := by omega
              simp (disch := omega) [Und, eqf1, eqf2, u0, d1, d2, d4, d5, -Bool.exists_bool, -Check_ok]
              exact ⟨k9 - 1, by omega, j + 1, by omega, by omega⟩
            · obtain rfl : j = l.length := by omega
              simp (disch := omega) [Und, eqf1, eqf2, u0, -Bool.exists_bool, -Check_ok]
      | true =>
        have hcd := hb rfl
        have hHl := hcd.1.1
        by_cases hiA : i < A.length
        · have d1 : (i : Int) < H.length := by omega
          have d2 : (i : Int) < l.length := by omega
          have d3 := (hs i hiA).all H ((clD_iff hok).1 hcd)
          simp (disch := omega) [Und, eqf1, eqf2, s0, sg0, sg1, l0, l1, d1, d2, d3, -Bool.exists_bool, -Check_ok]
          exact ⟨k - 1, by omega, i + 1, by omega, by omega⟩
        · have d1 : ¬ (i : Int) < H.length := by omega
          have l9 : σ.next < σ.next + 1 + 1 := by omega
          by_cases hx : x % 2 = 0
          · obtain ⟨q, hq, hqC⟩ : ∃ q : Nat, y % (C.length : Int) = q ∧ q < C.length := by
              have h0 := Int.emod_nonneg y (show (C.length : Int) ≠ 0 by omega)
              have h1 := Int.emod_lt_of_pos y (show (0 : Int) < C.length by omega)
              exact ⟨(y % (C.length : Int)).toNat, by omega, by omega⟩
            obtain ⟨v', hv', hsp'⟩ := Spans_ok N false (C.set q true) nA A (by simpa using hC) hA
            have hfin := span_ok (okNet_setC hok q) rfl (fun h => isCl_setC hok) hs hv'
            simp (disch := omega) [Und, eqf1, eqf2, s0, d1, sg0, sg1, l0, l1, l9, hx, -Bool.exists_bool, -Check_ok]
            generalize hυ : AH.set (σ.push _) σ.next _ = υ
            have u0 : υ.lim = 0 := by rw [← hυ]; exact s0
            have un : υ.next = σ.next + 1 := by rw [← hυ]; rfl
            have ug : ∀ z, z < σ.next → υ.get z = σ.get z := fun z hz => by rw [← hυ, AH.get_set_other _ _ _ _ (by omega), AH.get_push_old _ _ _ (by omega)]
            have u9 : υ.get σ.next = some (.cells [.int .i64 N, vl AV.bool nC C, vl eAn nA A]) := by rw [← hυ, AH.get_set_same _ _ _ (Nat.lt_succ_self _)]
            clear hυ
            refine lit0_app (lo := σ.next + 1) (σ := υ.push (.cells [])) (ys := C) (e := AV.bool) encBo (Nat.le_refl _) (by show σ.next + 1 ≤ υ.next + 1; omega) (by rw [← un]; exact AH.get_push_new _ _) (vl_src encBo nC C) (by simp only [topBytes]; omega) fun w σ1 w1 w2 w3 => ?_
            obtain ⟨o, c, rfl, o3, g, hc⟩ := w1
            have x0 : σ1.lim = 0 := w2.lim.trans u0
            have xn := w2.next
            simp at xn
            have xg : ∀ z, z < υ.next → σ1.get z = υ.get z := fun z hz => by rw [w2.get z (by simp; omega) (by simp), AH.get_push_old _ _ _ (by omega)]
            have x9 : σ1.get σ.next = _ := (xg _ (by omega)).trans u9
            have xg0 : σ1.get 0 = _ := ((xg 0 (by omega)).trans (ug 0 l0)).trans sg0
            have xg1 : σ1.get 1 = _ := ((xg 1 (by omega)).trans (ug 1 l1)).trans sg1
            have lo := AH.get_lt g
            have lx9 := AH.get_lt x9
            have rl := rowOf_length encBo C
            have rs := rowB_set C q true
            have ne1 : ¬ o = σ.next := by omega
            have ne2 : ¬ o = 0 := by omega
            have ne3 : ¬ o = 1 := by omega
            have ne4 : ¬ σ.next = 0 := by omega
            have ne5 : ¬ σ.next = 1 := by omega
            have ne6 : ¬ σ.next = o := by omega
            have hqC' : (q : Int) < C.length := by omega
            have q1' : q + 1 ≤ C.length := by omega
            simp at rs rl
            simp (disch := omega) [Und, eqf1, eqf2, x0, x9, xg0, xg1, g, rl, rs, hq, hqC', q1', lo, lx9, ne1, ne2, ne3, ne4, ne5, ne6, -Bool.exists_bool, -Check_ok, -getElem?_pos]
            generalize hτ : AH.set (AH.under (AH.set σ1 _ _) _) o _ = τ
            have t0 : τ.lim = 0 := by rw [← hτ]; rfl
            have tg : τ.get o = some (.cells (rowOf AV.bool (C.set q true))) := by rw [← hτ]; exact AH.get_set_same _ _ _ (by show o < σ1.next; exact lo)
            have tl : C.length = (C.set q true).length := by simp
            rw [tl]
            refine pc_ro (.cons (net_snapC (AH.cel_get tg) (by rw [← tl]; exact hc)) .nil) (fun h => by cases h) (by simp) (oo (args := []) (by decide)).1 (fun z hz => by rw [t0]; exact Nat.zero_le _) hsp' fun τ2 o2 ce2 => ?_
            have v0 := o2.lim.trans t0
            rcases hfin with rfl | ⟨m, hm, rfl, hle⟩
            · simp (disch := omega) [Und, eqf1, eqf2, v0, -Bool.exists_bool, -Check_ok]
            · have hlm' : (m.length : Int) = l.length := by omega
              simp (disch := omega) [Und, eqf1, eqf2, v0, eq_true hlm', -Bool.exists_bool, -Check_ok]
              refine lp_loop pl (fun k fr υ => ∃ j : Nat, k + j = l.length ∧ fr = ⟨[(7, vl eSpan false l), (16, vl eSpan false m), (18, .int .i64 j)], []⟩ ∧ υ.lim = 0) ⟨l.length, 0, by omega, rfl, v0⟩ ?_
              rintro k9 _ υ ⟨j, hj, rfl, u0⟩
              by_cases hjl : j < l.length
              · have d1 : (j : Int) < l.length := by omega
                have d2 : (j : Int) < m.length := by omega
                have d3 := hle j (by omega)
                have d4 : ¬ (nth m j).lo < (nth l j).lo := by omega
                have d5 : ¬ (nth l j).hi < (nth m j).hi := by omega
                simp (disch := omega) [Und, eqf1, eqf2, u0, d1, d2, d4, d5, -Bool.exists_bool, -Check_ok]
                exact ⟨k9 - 1, by omega, j + 1, by omega, by omega⟩
              · obtain rfl : j = l.length := by omega
                simp (disch := omega) [Und, eqf1, eqf2, u0, -Bool.exists_bool, -Check_ok]
          · obtain ⟨q, hq, hqA⟩ : ∃ q : Nat, y % (A.length : Int) = q ∧ q < A.length := by
              have h0 := Int.emod_nonneg y (show (A.length : Int) ≠ 0 by omega)
              have h1 := Int.emod_lt_of_pos y (show (0 : Int) < A.length by omega)
              exact ⟨(y % (A.length : Int)).toNat, by omega, by omega⟩
            obtain ⟨_, _, o3, o4, o5⟩ := hok.2.2.2.1 q hqA
            have hz := chz_in (l := (nth A q).lo) (h := (nth A q).hi) (n := z) o4
            obtain ⟨v', hv', hsp'⟩ := Spans_ok N nC C false (setA A q (chz (nth A q).lo (nth A q).hi z) (nth A q).hi) hC (by rw [setA_len]; exact hA)
            have hfin := span_ok (okNet_setA hok hqA (by omega) (by omega) (by omega)) (setA_len ..) (fun h hc => ((isCl_sub hqA hz.1 (Int.le_refl _)).1 hc).1) hs hv'
            have hwi := with_ok N nC C nA A q (chz (nth A q).lo (nth A q).hi z) (nth A q).hi hqA (by omega)
            unfold eNet at hwi hsp'
            have hqA' : (q : Int) < A.length := by omega
            rcases hfin with rfl | ⟨m, hm, rfl, hle⟩
            · simp (disch := omega) [Und, eqf1, eqf2, s0, d1, sg0, sg1, l0, l1, l9, hx, hq, hqA', hwi, hsp', -Bool.exists_bool, -Check_ok]
            · have hlm0 : (m.length : Int) = l.length := by omega
              simp (disch := omega) [Und, eqf1, eqf2, s0, d1, sg0, sg1, l0, l1, l9, hx, hq, hqA', hwi, hsp', eq_true hlm0, -Bool.exists_bool, -Check_ok]
              refine lp_loop pl (fun k fr υ => ∃ j : Nat, k + j = l.length ∧ fr = ⟨[(7, vl eSpan false l), (16, vl eSpan false m), (18, .int .i64 j)], []⟩ ∧ υ.lim = 0) ⟨l.length, 0, by omega, rfl, rfl⟩ ?_
              rintro k9 _ υ ⟨j, hj, rfl, u0⟩
              by_cases hjl : j < l.length
              · have d1 : (j : Int) < l.length := by omega
                have d2 : (j : Int) < m.length := by omega
                have d3 := hle j (by omega)
                have d4 : ¬ (nth m j).lo < (nth l j).lo := by omega
                have d5 : ¬ (nth l j).hi < (nth m j).hi := by omega
                simp (disch := omega) [Und, eqf1, eqf2, u0, d1, d2, d4, d5, -Bool.exists_bool, -Check_ok]
                exact ⟨k9 - 1, by omega, j + 1, by omega, by omega⟩
              · obtain rfl : j = l.length := by omega
                simp (disch := omega) [Und, eqf1, eqf2, u0, -Bool.exists_bool, -Check_ok]
  · have hb1 : v = .tuple [vl eSpan true [], .int .i64 60] := by
      cases hv with
      | bad h => rfl
      | none h _ => exact absurd h hok
      | ok l h _ _ => exact absurd h hok
    subst hb1
    have hcl := pCloses_bad T nC C nA A nH H hC hA hok
    unfold eNet at hcl
    simp (disch := omega) [eNet, hsp, hso, hcl, hok, Und, eqf1, eqf2, -Bool.exists_bool, -Check_ok]
theorem RoundsInside_ok (T : Int) (nC nA : Bool) (C : List Bool) (A : List An) (nH : Bool) (H : List Int) (x y z : Int) (hT : i64 T) {u v w : AV} (hC : Slice AV.bool (fun _ => True) u nC C) (hA : Slice eAn anOK v nA A) (hH : Slice (AV.int .i64) i64 w nH H) (hx : i64 x) (hy : i64 y) (hz : i64 z) :
    ans prog O 12 [.agg [.int .i64 T, vl AV.bool nC C, vl eAn nA A], vs nH H, .agg [.int .i64 x, .int .i64 y, .int .i64 z]] = some (.bool true) := by
  have h1 := hC.len
  have h2 := hA.len
  have h3 := hH.len
  exact RoundsInside_law T nC nA C A nH H x y z (by omega) (by omega) (by omega)
end Go.Oct.Rounds
