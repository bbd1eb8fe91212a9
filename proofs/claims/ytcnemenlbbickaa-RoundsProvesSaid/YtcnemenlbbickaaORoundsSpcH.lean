/- The specification's Holds and Suspects. -/
import Derived.Test.YtcnemenlbbickaaORoundsSpcL
import Derived.Test.YtcnemenlbbickaaORoundsSus
set_option maxRecDepth 100000
set_option maxHeartbeats 8000000
set_option linter.unusedVariables false
set_option linter.unusedSimpArgs false
namespace Go.Oct.Rounds
open Go.Oct
theorem set_ok (nl : Bool) {l : List Int} {n : Nat} (hr : rise l n) (hn : n ≤ 60) : ∃ m : Nat, m < 2 ^ n ∧ pM m n = l ∧ ans prog O 62 [vs nl l] = some (.int .i64 (m : Int)) := by
  have hll : l.length ≤ n := by
    have := sel_len (fun k => l.contains (k : Int)) n
    rw [← rise_sel n l hr] at this
    exact this
  obtain ⟨v, ⟨m, rfl, h1, h2⟩, h3⟩ : ∃ v, (∃ m : Nat, v = .int .i64 (m : Int) ∧ m < 2 ^ n ∧ pM m n = l) ∧ ans prog O 62 [vs nl l] = some v := by
    refine fn_ex pl _ get62 (oo (by decide)) rfl rfl ?_
    simp (disch := omega) [-Bool.exists_bool]
    refine lp_loop pl (fun q fr σ => ∃ i m : Nat, i + q = l.length ∧ fr = ⟨[(0, vs nl l), (3, .int .i64 (m : Int)), (4, .int .i64 i)], []⟩ ∧ σ.lim = 0 ∧ (∀ p : Nat, (∀ j, j < i → nth l j < p) → m < 2 ^ p) ∧ ∀ k : Nat, (m / 2 ^ k % 2 = 1 ↔ ∃ j, j < i ∧ nth l j = (k : Int)))
      ⟨l.length, 0, 0, by omega, rfl, rfl, fun p _ => Nat.pow_pos (by decide), fun k => by simp⟩ ?_
    rintro q _ σ ⟨i, m, hi, rfl, s0, hlt, hb⟩
    by_cases hil : i < l.length
    · have hil' : (i : Int) < l.length := by omega
      obtain ⟨p, hp⟩ : ∃ p : Nat, nth l i = p := ⟨(nth l i).toNat, by have := rise_ge hr i hil; omega⟩
      have hpn : p < n := by have := (hr i hil).2; omega
      have hsh := abin_shl1 p (by omega)
      rw [← hp] at hsh
      obtain ⟨pw, hpw⟩ : ∃ pw : Nat, pw = 2 ^ p := ⟨_, rfl⟩
      have hpw8 : pw ≤ 2 ^ 60 := by rw [hpw]; exact Nat.pow_le_pow_right (by decide) (by omega)
      have hmp : m < 2 ^ p := hlt p fun j hj => by have := rise_lt hr i hil j hj; omega
      have hnb : ¬ m / 2 ^ p % 2 = 1 := by rw [bit_hi hmp]; decide
      rw [← hpw] at hsh hmp
      simp (disch := omega) [Und, s0, hil', hsh, -Bool.exists_bool]
      refine ⟨q - 1, by omega, i + 1, by omega, m + pw, ⟨by omega, by omega⟩, fun r hr2 => ?_, fun k => ?_⟩
      · have h1 := hr2 i (by omega)
        have h2 : (2 : Nat) ^ (p + 1) ≤ 2 ^ r := Nat.pow_le_pow_right (by decide) (by omega)
        rw [Nat.pow_succ] at h2
        omega
      · rw [hpw, bit_add m p k hnb, hb k]
        constructor
        · rintro (rfl | ⟨j, j1, j2⟩)
          · exact ⟨i, by omega, hp⟩
          · exact ⟨j, by omega, j2⟩
        · rintro ⟨j, j1, j2⟩
          by_cases e : j = i
          · rw [e, hp] at j2; left; omega
          · exact .inr ⟨j, by omega, j2⟩
    · obtain rfl : i = l.length := by omega
      simp (disch := omega) [Und, s0, -Bool.exists_bool]
      refine ⟨m, rfl, hlt n fun j hj => (hr j hj).2, pM_of hr fun k hk => ?_⟩
      rw [Bool.eq_iff_iff, List.contains_iff_mem, mem_nth]
      simpa using hb k
  exact ⟨m, h1, h2, h3⟩
theorem rise_iff {l : List Int} {n : Int} : Rises l n l.length ↔ rise l n := by
  constructor
  · intro h i hi
    have h1 := h i hi
    by_cases e : i = 0
    · rw [if_pos e]; omega
    · rw [if_neg e]; have := h1.2 (by omega); omega
  · intro h i hi
    have h1 := rise_ge h i hi
    have h2 := (h i hi).2
    refine ⟨⟨h1, by omega⟩, fun h0 => ?_⟩
    have := (h i hi).1
    rw [if_neg (by omega)] at this; exact this
theorem sHolds_ok (T : Int) (nC : Bool) (C : List Bool) (nA : Bool) (A : List An) (nP nQ : Bool) (P Q : List Int) (small : Bool) (hC : C.length < 2 ^ 62) (hA : A.length < 2 ^ 62) (hP : P.length < 2 ^ 62) (hQ : Q.length < 2 ^ 62) :
    ans prog O 21 [eNet T nC C nA A, .agg [vs nP P, vs nQ Q, .bool small]] = some (if okNet T C A then (if okPf T C P Q then .tuple [.bool (decide (hold A P Q small)), .int .i64 0] else .tuple [.bool false, .int .i64 61]) else .tuple [.bool false, .int .i64 60]) := by
  refine fn_of' pl get21 (oo (by decide)) rfl rfl ?_
  have hck := sCheck_ok T nC C nA A hC hA
  unfold eNet at hck
  by_cases hok : okNet T C A
  · obtain ⟨N, rfl⟩ : ∃ N : Nat, T = N := ⟨T.toNat, by have := hok.1; omega⟩
    have hN := hok.1
    have hC8 := hok.2.1
    rw [if_pos hok] at hck ⊢
    by_cases c1 : rise P N
    · by_cases c2 : rise Q C.length
      · have d1 := rise_iff.2 c1
        have d2 := rise_iff.2 c2
        simp (disch := omega) [eNet, hck, d1, d2, Und, -Bool.exists_bool]
        refine lp_loop pl (fun q fr σ => ∃ (i : Nat) (ok : Bool), i + q = Q.length ∧ fr = ⟨[(2, .ptr (some (0, 0))), (3, .ptr (some (1, 0))), (7, .bool ok), (8, .int .i64 i)], []⟩ ∧ σ.lim = 0 ∧ 2 ≤ σ.next ∧ σ.get 0 = some (.cells [.int .i64 N, vl AV.bool nC C, vl eAn nA A]) ∧ σ.get 1 = some (.cells [vs nP P, vs nQ Q, .bool small]) ∧
            ((ok = true ∧ ∀ j, j < i → nth C (nth Q j).toNat = true) ∨ (ok = false ∧ ¬ okPf N C P Q)))
          ⟨Q.length, 0, true, by omega, rfl, rfl, by simp, by simp, by simp, .inl ⟨rfl, fun j hj => by omega⟩⟩ ?_
        rintro q _ σ ⟨i, ok, hi, rfl, s0, sn, sg0, sg1, hst⟩
        have l0 := AH.get_lt sg0
        have l1 := AH.get_lt sg1
        rcases hst with ⟨rfl, hcl⟩ | ⟨rfl, hpf⟩
        · by_cases hiQ : i < Q.length
          · have hiQ' : (i : Int) < Q.length := by omega
            have e1 := rise_ge c2 i hiQ
            have e2 := (c2 i hiQ).2
            obtain ⟨p, hp⟩ : ∃ p : Nat, nth Q i = p := ⟨(nth Q i).toNat, by omega⟩
            have e3 : (p : Int) < C.length := by omega
            have e4 : p < C.length := by omega
            cases hc : nth C p
            · have hpf : ¬ okPf N C P Q := fun h => by
                have := h.2.2 i hiQ
                rw [hp, Int.toNat_natCast, hc] at this; cases this
              simp (disch := omega) [Und, eqf1, eqf2, s0, sg0, sg1, l0, l1, hiQ', hp, e3, e4, hc, -Bool.exists_bool]
              exact ⟨q - 1, by omega, i + 1, by omega, false, ⟨rfl, by omega⟩, sn, .inr ⟨rfl, hpf⟩⟩
            · simp (disch := omega) [Und, eqf1, eqf2, s0, sg0, sg1, l0, l1, hiQ', hp, e3, e4, hc, -Bool.exists_bool]
              refine ⟨q - 1, by omega, i + 1, by omega, true, ⟨rfl, by omega⟩, sn, .inl ⟨rfl, fun j hj => ?_⟩⟩
              by_cases e : j = i
              · rw [e, hp, Int.toNat_natCast]; exact hc
              · exact hcl j (by omega)
          · obtain rfl : i = Q.length := by omega
            have hpf : okPf N C P Q := ⟨c1, c2, hcl⟩
            obtain ⟨m1, a1, a2, a3⟩ := set_ok nP c1 (by omega)
            obtain ⟨m2, b1, b2, b3⟩ := set_ok nQ c2 (by omega)
            have hcu := cutOf_ok nC nA hok a1 b1
            rw [a2, b2] at hcu
            unfold eNet at hcu
            rw [if_pos hpf]
            have z1 : σ.next < σ.next + 1 := by omega
            cases small
            · by_cases v : mustP P Q < cLo A P Q
              · have hh : hold A P Q false := by unfold hold; simpa using v
                simp (disch := omega) [Und, eqf1, eqf2, s0, sg0, sg1, l0, l1, a3, b3, hcu, z1, v, hh, -Bool.exists_bool]
              · have hh : ¬ hold A P Q false := by unfold hold; simpa using v
                simp (disch := omega) [Und, eqf1, eqf2, s0, sg0, sg1, l0, l1, a3, b3, hcu, z1, v, hh, -Bool.exists_bool]
            · by_cases v : cHi A P Q < mustP P Q
              · have hh : hold A P Q true := by unfold hold; simpa using v
                simp (disch := omega) [Und, eqf1, eqf2, s0, sg0, sg1, l0, l1, a3, b3, hcu, z1, v, hh, -Bool.exists_bool]
              · have hh : ¬ hold A P Q true := by unfold hold; simpa using v
                simp (disch := omega) [Und, eqf1, eqf2, s0, sg0, sg1, l0, l1, a3, b3, hcu, z1, v, hh, -Bool.exists_bool]
        · simp (disch := omega) [Und, eqf1, eqf2, s0, sg0, sg1, l0, l1, hpf, -Bool.exists_bool]
      · have d1 := rise_iff.2 c1
        have d2 : ¬ Rises Q C.length Q.length := fun h => c2 (rise_iff.1 h)
        have hpf : ¬ okPf N C P Q := fun h => c2 h.2.1
        simp (disch := omega) [eNet, hck, d1, d2, hpf, Und, -Bool.exists_bool]
        refine lp_loop pl (fun q fr σ => fr = ⟨[(2, .ptr (some (0, 0))), (3, .ptr (some (1, 0))), (7, .bool false), (8, .int .i64 0)], []⟩ ∧ σ.lim = 0) ⟨0, rfl, rfl⟩ ?_
        rintro q _ σ ⟨rfl, s0⟩
        simp (disch := omega) [Und, s0, hpf, -Bool.exists_bool]
    · have d1 : ¬ Rises P N P.length := fun h => c1 (rise_iff.1 h)
      have hpf : ¬ okPf N C P Q := fun h => c1 h.1
      simp (disch := omega) [eNet, hck, d1, hpf, Und, -Bool.exists_bool]
      refine lp_loop pl (fun q fr σ => fr = ⟨[(2, .ptr (some (0, 0))), (3, .ptr (some (1, 0))), (7, .bool false), (8, .int .i64 0)], []⟩ ∧ σ.lim = 0) ⟨0, rfl, rfl⟩ ?_
      rintro q _ σ ⟨rfl, s0⟩
      simp (disch := omega) [Und, s0, hpf, -Bool.exists_bool]
  · rw [if_neg hok] at hck ⊢
    simp (disch := omega) [eNet, hck, Und, -Bool.exists_bool]
/-- A net's snapshot, its angles being in an object. -/
theorem net_snapA {T : Int} {nC : Bool} {C : List Bool} {A : List An} {σ : AH} {o : Nat} {c : ACap} (hcel : σ.cel o = some (rowOf eAn A)) (hc : c = .op 4 ∨ c = .ex A.length) : Snap σ (.agg [.int .i64 T, vl AV.bool nC C, .slice (some (o, 0)) A.length c]) [o] (eNet T nC C false A) := by
  refine ⟨?_, fun S hS => ?_⟩
  · show [AV.int .i64 T, vl AV.bool nC C, .slice (some (o, 0)) A.length c].flatMap (idsV 7 σ.cel) = [o]
    have e : idsV 7 σ.cel (.slice (some (o, 0)) A.length c) = [o] := by
      show (match σ.cel o with | some cs => o :: cs.flatMap (idsV 6 σ.cel) | none => []) = _
      rw [hcel]
      have : (rowOf eAn A).flatMap (idsV 6 σ.cel) = [] := by
        rw [List.flatMap_eq_nil_iff]
        intro x hx
        exact (flat_row flatAn A x hx 5 _).1
      simp [this]
    simp only [List.flatMap_cons, List.flatMap_nil, e]
    rfl
  · have hce : σ.celOf S o = some (rowOf eAn A) := by
      unfold AH.celOf
      rw [if_pos (by simpa using hS o (by simp)), hcel]
    have := fz_whole encAn flatAn (f := σ.celOf S) (o := o) (xs := A) (c := c) hce hc 5
    show AV.agg [AV.int .i64 T, vl AV.bool nC C, fzV 7 (σ.celOf S) (.slice (some (o, 0)) A.length c)] = _
    rw [this]
    rfl
theorem spc_yes {N : Nat} {C : List Bool} {A : List An} (hok : okNet N C A) {v : AV} (h : SpcV N C A v) : ∃ a, v = .tuple [a, .bool (clB N C A)] := by
  cases h with
  | no hp =>
    refine ⟨vl eSpan true [], ?_⟩
    have : clB N C A = false := by
      cases e : clB N C A with
      | false => rfl
      | true => obtain ⟨f, hf⟩ := clB_true.1 e; exact absurd hp (not_proved hok hf)
    rw [this]
  | yes out hI =>
    refine ⟨vl eSpan false out, ?_⟩
    have : clB N C A = true := by
      rcases closes_or_proved hok with h | h
      · exact clB_true.2 h
      · exact absurd h hI.not_proved
    rw [this]
theorem sSuspects_ok (T : Int) (nC : Bool) (C : List Bool) (nA : Bool) (A : List An) (hC : C.length < 2 ^ 62) (hA : A.length < 2 ^ 62) : ∃ v, SusV T C A v ∧ ans prog O 23 [eNet T nC C nA A] = some v := by
  refine fn_ex pl _ get23 (oo (by decide)) rfl rfl ?_
  have hck := sCheck_ok T nC C nA A hC hA
  unfold eNet at hck
  by_cases hok : okNet T C A
  · obtain ⟨N, rfl⟩ : ∃ N : Nat, T = N := ⟨T.toNat, by have := hok.1; omega⟩
    have hN := hok.1
    have hA3 := hok.2.2.1
    rw [if_pos hok] at hck
    obtain ⟨v, hv, hs⟩ := sspans_ok nC nA hok
    obtain ⟨a, rfl⟩ := spc_yes hok hv
    unfold eNet at hs
    cases hcb : clB N C A with
    | true =>
      rw [hcb] at hs
      obtain ⟨f, hf⟩ := clB_true.1 hcb
      simp (disch := omega) [eNet, hck, hs, Und, -Bool.exists_bool]
      exact .none f hok hf
    | false =>
      rw [hcb] at hs
      have hno : ∀ h, ¬ isCl N C A h := fun h hh => by
        have := clB_true.2 ⟨h, hh⟩
        rw [hcb] at this; cases this
      have hss : ∀ i, i < A.length → ∃ a, ans prog O 64 [eNet N nC C false (setA A i 0 648000)] = some (.tuple [a, .bool (susF N C A i)]) := fun i hi => by
        have hok2 : okNet N C (setA A i 0 648000) := okNet_setA hok hi (by omega) (by omega) (by omega)
        obtain ⟨v, hv, h1⟩ := sspans_ok nC false hok2
        obtain ⟨a, rfl⟩ := spc_yes hok2 hv
        exact ⟨a, h1⟩
      simp (disch := omega) [eNet, hck, hs, Und, -Bool.exists_bool]
      refine lp_loop pl (fun k fr σ => ∃ (i : Nat) (v : AV), k + i = A.length ∧ fr = ⟨[(1, .ptr (some (0, 0))), (7, v), (8, .int .i64 i)], []⟩ ∧ σ.lim = 0 ∧ 1 ≤ σ.next ∧ σ.get 0 = some (.cells [.int .i64 N, vl AV.bool nC C, vl eAn nA A]) ∧ Buf 1 1 (AV.int .i64) σ v (sel (susF N C A) i))
        ⟨A.length, 0, .vsl true [], by omega, rfl, rfl, by simp, by simp, by rw [sel_zero]; exact Buf.nil⟩ ?_
      rintro k _ σ ⟨i, v, hi, rfl, s0, sn, sg, vb⟩
      have l0 := AH.get_lt sg
      by_cases hiA : i < A.length
      · have hiA' : (i : Int) < A.length := by omega
        obtain ⟨a2, hsi⟩ := hss i hiA
        simp (disch := omega) [Und, eqf1, eqf2, s0, sg, l0, hiA', -Bool.exists_bool]
        refine lit0_app (lo := σ.next) (σ := σ.push (.cells [])) (ys := A) (e := eAn) encAn (Nat.le_refl _) (by simp) (AH.get_push_new _ _) (vl_src encAn nA A) (by simp only [topBytes]; omega) fun w σ1 w1 w2 w3 => ?_
        obtain ⟨o, c, rfl, o3, g, hc⟩ := w1
        have x0 : σ1.lim = 0 := w2.lim.trans s0
        have xn := w2.next
        simp at xn
        have xg : ∀ z, z < σ.next → σ1.get z = σ.get z := fun z hz => by rw [w2.get z (by simp; omega) (by simp), AH.get_push_old _ _ _ (by omega)]
        have xg0 : σ1.get 0 = _ := (xg 0 l0).trans sg
        have lo := AH.get_lt g
        have rl := rowOf_length encAn A
        have ra := rowAn_at hiA
        have rs := rowAn_set (A := A) (k := i) ⟨(nth A i).t, (nth A i).s, 0, 648000⟩ hiA
        simp only [cells_eAn] at ra rs
        have i4 : i * 4 + 4 ≤ A.length * 4 := by omega
        have ne1 : ¬ o = σ1.next := by omega
        have ne2 : ¬ 0 = σ1.next := by omega
        have ne3 : ¬ 0 = o := by omega
        have ne4 : ¬ o = 0 := by omega
        have ne5 : ¬ σ1.next = o := by omega
        have lt1 : σ1.next < σ1.next + 1 := by omega
        have lt2 : o < σ1.next + 1 := by omega
        have lt3 : 0 < σ1.next + 1 := by omega
        simp at rs
        simp (disch := omega) [Und, eqf1, eqf2, x0, xg0, g, rl, ra, rs, i4, hiA', lo, ne1, ne2, ne3, ne4, ne5, lt1, lt2, lt3, -Bool.exists_bool, -getElem?_pos]
        generalize hτ : AH.set (AH.set (AH.set (AH.push σ1 _) _ _) _ _) o _ = τ
        have t0 : τ.lim = 0 := by rw [← hτ]; exact x0
        have tn : τ.next = σ1.next + 1 := by rw [← hτ]; rfl
        have tg : τ.get o = some (.cells (rowOf eAn (setA A i 0 648000))) := by rw [← hτ, AH.get_set_same _ _ _ (by show o < σ1.next + 1; omega)]; rfl
        have tz : ∀ z, z < σ.next → τ.get z = σ.get z := fun z hz => by
          rw [← hτ, AH.get_set_other _ _ _ _ (by omega), AH.get_set_other _ _ _ _ (by omega), AH.get_set_other _ _ _ _ (by omega), AH.get_push_old _ _ _ (by omega), xg z hz]
        clear hτ
        have tl : A.length = (setA A i 0 648000).length := (setA_len ..).symm
        rw [tl]
        refine pc_ro (.cons (net_snapA (AH.cel_get tg) (by rw [← tl]; exact hc)) .nil) (fun h => by cases h) (by simp) (oo (args := []) (by decide)).1 (fun z hz => by rw [t0]; exact Nat.zero_le _) hsi fun τ2 o2 ce2 => ?_
        have u0 := o2.lim.trans t0
        have un := o2.next
        have uz : ∀ z, z < σ.next → τ2.get z = σ.get z := fun z hz => by rw [o2.get z (by omega) (by simp; omega), tz z hz]
        have ug := (uz 0 l0).trans sg
        have vb2 : Buf 1 1 (AV.int .i64) τ2 v (sel (susF N C A) i) := vb.keep fun z _ hz => uz z hz
        have hsl := sel_len (susF N C A) i
        cases hF : susF N C A i with
        | true =>
          simp (disch := omega) [Und, u0, -Bool.exists_bool]
          refine vb2.push encI (by omega) (by omega) (i : Int) (by simp only [topBytes]; omega) rfl fun v' σ4 q1 q2 => ?_
          have q3 := q2.next
          simp (disch := omega) [Und, -Bool.exists_bool]
          refine ⟨k - 1, by omega, i + 1, by omega, v', ⟨rfl, by omega⟩, q2.lim.trans u0, by omega, (q2.get 0 (by omega)).trans ug, ?_⟩
          rw [sel_succ, if_pos hF]; exact q1
        | false =>
          simp (disch := omega) [Und, u0, -Bool.exists_bool]
          refine ⟨k - 1, by omega, i + 1, by omega, v, ⟨rfl, by omega⟩, by omega, ug, ?_⟩
          rw [sel_succ, if_neg (by rw [hF]; simp), List.append_nil]; exact vb2
      · obtain rfl : i = A.length := by omega
        simp (disch := omega) [Und, s0, sg, l0, -Bool.exists_bool]
        have hfz : ∃ nl, fzV 7 σ.cel v = vs nl (susL N C A) := by
          rcases vb with ⟨rfl, hx⟩ | ⟨o, rfl, o1, o2, _⟩
          · refine ⟨true, ?_⟩
            unfold susL; rw [hx]; rfl
          · exact ⟨false, fz_whole encI flatI (f := σ.cel) (o := o) (xs := sel (susF N C A) A.length) (c := .op 1) (by simp [o2]) (.inl rfl) 5⟩
        obtain ⟨nl, hfz⟩ := hfz
        rw [hfz]
        exact .ok nl hok hno
  · rw [if_neg hok] at hck
    simp (disch := omega) [eNet, hck, Und, -Bool.exists_bool]
    exact .bad hok
end Go.Oct.Rounds
