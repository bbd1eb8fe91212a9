/- The specification's Spans and Closes. -/
import Derived.Test.YtcnemenlbbickaaORoundsSpcS
import Derived.Test.YtcnemenlbbickaaORoundsSpcK
set_option maxRecDepth 100000
set_option maxHeartbeats 8000000
set_option linter.unusedVariables false
set_option linter.unusedSimpArgs false
namespace Go.Oct.Rounds
open Go.Oct
inductive SSpV (T : Int) (C : List Bool) (A : List An) : AV → Prop
  | bad : ¬ okNet T C A → SSpV T C A (.tuple [vl eSpan true [], .int .i64 60])
  | none : okNet T C A → Proved T C A → SSpV T C A (.tuple [vl eSpan true [], .int .i64 4])
  | ok (N : Nat) (out : List Span) : T = N → okNet T C A → SpI N C A (fun _ _ => True) out → SSpV T C A (.tuple [vl eSpan false out, .int .i64 0])
theorem sSpans_ok (T : Int) (nC : Bool) (C : List Bool) (nA : Bool) (A : List An) (hC : C.length < 2 ^ 62) (hA : A.length < 2 ^ 62) : ∃ v, SSpV T C A v ∧ ans prog O 41 [eNet T nC C nA A] = some v := by
  refine fn_ex pl _ get41 (oo (by decide)) rfl rfl ?_
  have hck := sCheck_ok T nC C nA A hC hA
  unfold eNet at hck
  by_cases hok : okNet T C A
  · obtain ⟨N, rfl⟩ : ∃ N : Nat, T = N := ⟨T.toNat, by have := hok.1; omega⟩
    rw [if_pos hok] at hck
    obtain ⟨v, hv, hs⟩ := sspans_ok nC nA hok
    unfold eNet at hs
    cases hv with
    | no hp =>
      simp (disch := omega) [eNet, hck, hs, Und, -Bool.exists_bool]
      exact .none hok hp
    | yes out hI =>
      simp (disch := omega) [eNet, hck, hs, Und, -Bool.exists_bool]
      exact .ok N out rfl hok hI
  · rw [if_neg hok] at hck
    simp (disch := omega) [eNet, hck, Und, -Bool.exists_bool]
    exact .bad hok
theorem sBy_succ (f : An → Bool) {A : List An} {H : List Int} {i : Nat} (hi : i < A.length) (hl : H.length = A.length) : sBy f (A.take (i + 1)) (H.take (i + 1)) = sBy f (A.take i) (H.take i) + if f (nth A i) = true then nth H i else 0 := by
  rw [take_succ_nth hi, take_succ_nth (by omega)]
  exact sBy_app f _ _ _ _ (by simp [hl])
/-- A row of sums: one for each number. -/
def sumsL (g : An → Int) (n : Nat) (A : List An) (H : List Int) : List Int := (List.range n).map fun (t : Nat) => sBy (fun a => decide (g a = (t : Int))) A H
theorem sumsL_len (g : An → Int) (n : Nat) (A : List An) (H : List Int) : (sumsL g n A H).length = n := by simp [sumsL]
theorem sumsL_nth (g : An → Int) {n t : Nat} (A : List An) (H : List Int) (h : t < n) : nth (sumsL g n A H) t = sBy (fun a => decide (g a = (t : Int))) A H := by
  unfold sumsL
  rw [nth_map (f := fun (t : Nat) => sBy (fun a => decide (g a = (t : Int))) A H) (by simpa using h), nth_eq (by simpa using h), List.getElem_range]
theorem sumsL_succ (g : An → Int) (n : Nat) {A : List An} {H : List Int} {i : Nat} (hi : i < A.length) (hl : H.length = A.length) {p : Nat} (hp : g (nth A i) = p) (hpn : p < n) :
    (sumsL g n (A.take i) (H.take i)).set p (sBy (fun a => decide (g a = (p : Int))) (A.take i) (H.take i) + nth H i) = sumsL g n (A.take (i + 1)) (H.take (i + 1)) := by
  have h0 : p < (sumsL g n (A.take i) (H.take i)).length := by rw [sumsL_len]; exact hpn
  refine ext_nth (by simp [sumsL_len]) fun t ht => ?_
  rw [List.length_set, sumsL_len] at ht
  rw [nth_set h0, sumsL_nth _ _ _ ht, sumsL_nth _ _ _ ht, sBy_succ _ hi hl]
  by_cases e : t = p
  · rw [if_pos e, e, if_pos (by rw [hp]; simp)]
  · rw [if_neg e, if_neg (by rw [hp]; simp; omega)]; omega
theorem sums0 (g : An → Int) (n : Nat) : zcells [AV.int .i64 0] n = iC (sumsL g n [] []) := by
  rw [zcells_row (AV.int .i64) (x := (0 : Int)) (zero := [AV.int .i64 0]) rfl, iC_row]
  congr 1
  refine ext_nth (by simp [sumsL_len]) fun j hj => ?_
  rw [List.length_replicate] at hj
  rw [sumsL_nth _ _ _ hj]
  unfold nth
  rw [List.getD_eq_getElem?_getD, List.getElem?_replicate, if_pos hj]; rfl
theorem sCloses_ok (T : Int) (nC : Bool) (C : List Bool) (nA : Bool) (A : List An) (nH : Bool) (H : List Int) (hC : C.length < 2 ^ 62) (hA : A.length < 2 ^ 62) (hH : H.length < 2 ^ 62) :
    ans prog O 38 [eNet T nC C nA A, vs nH H] = some (if okNet T C A then (if H.length = A.length then .tuple [.bool (decide (clD T.toNat C A H)), .int .i64 0] else .tuple [.bool false, .int .i64 61]) else .tuple [.bool false, .int .i64 60]) := by
  refine fn_of' pl get38 (oo (by decide)) rfl rfl ?_
  have hck := sCheck_ok T nC C nA A hC hA
  unfold eNet at hck
  by_cases hok : okNet T C A
  · obtain ⟨N, rfl⟩ : ∃ N : Nat, T = N := ⟨T.toNat, by have := hok.1; omega⟩
    have hN := hok.1
    have hC8 := hok.2.1
    have hA3 := hok.2.2.1
    rw [if_pos hok] at hck
    rw [Int.toNat_natCast]
    by_cases hl : H.length = A.length
    · have hl' : (H.length : Int) = A.length := by omega
      have ht1 : (N : Int) * 8 ≤ topBytes := by simp only [topBytes]; omega
      have ht2 : (C.length : Int) * 8 ≤ topBytes := by simp only [topBytes]; omega
      have ht3 : (N : Int) ≤ topBytes := by simp only [topBytes]; omega
      have ht4 : (C.length : Int) ≤ topBytes := by simp only [topBytes]; omega
      simp (disch := omega) [eNet, hck, hok, eq_true hl', hl, Und, -Bool.exists_bool]
      refine ⟨⟨ht1, by omega⟩, ⟨ht2, by omega⟩, ?_⟩
      have hm1 := sums0 An.t N
      have hm2 := sums0 An.s C.length
      have hbH : ∀ i, i ≤ A.length → (∀ j, j < i → (nth A j).lo ≤ nth H j ∧ nth H j ≤ (nth A j).hi) → ∀ f, 0 ≤ sBy f (A.take i) (H.take i) ∧ sBy f (A.take i) (H.take i) ≤ 648000 * 24 := fun i hi hin f => by
        have := sBy_bd f (A.take i) (H.take i) (fun q hq => by
          rw [List.length_take] at hq
          rw [nth_take (by omega) (by omega)]
          have h1 := hin q (by omega)
          obtain ⟨_, _, b3, b4, b5⟩ := hok.2.2.2.1 q (by omega)
          omega) (by simp [hl])
        have h2 : (A.take i).length ≤ 24 := by rw [List.length_take]; omega
        omega
      refine lp_loop pl (fun q fr σ => ∃ (i : Nat) (ok : Bool) (L1 L2 : List Int), i + q = A.length ∧ fr = ⟨[(1, vs nH H), (2, .ptr (some (0, 0))), (7, .slice (some (1, 0)) N (.ex N)), (8, .slice (some (2, 0)) C.length (.ex C.length)), (9, .bool ok), (10, .int .i64 i)], []⟩ ∧ σ.lim = 0 ∧ 3 ≤ σ.next ∧ σ.get 0 = some (.cells [.int .i64 N, vl AV.bool nC C, vl eAn nA A]) ∧ σ.get 1 = some (.cells (iC L1)) ∧ σ.get 2 = some (.cells (iC L2)) ∧ L1.length = N ∧ L2.length = C.length ∧
          ((ok = true ∧ L1 = sumsL An.t N (A.take i) (H.take i) ∧ L2 = sumsL An.s C.length (A.take i) (H.take i) ∧ ∀ j, j < i → (nth A j).lo ≤ nth H j ∧ nth H j ≤ (nth A j).hi) ∨ (ok = false ∧ ¬ clD N C A H)))
        ⟨A.length, 0, true, _, _, by omega, rfl, rfl, by simp, by simp, by simp; exact hm1, by simp; exact hm2, sumsL_len .., sumsL_len .., .inl ⟨rfl, rfl, rfl, fun j hj => by omega⟩⟩ ?_
      rintro q _ σ ⟨i, ok, L1, L2, hi, rfl, s0, sn, sg0, sg1, sg2, len1, len2, hst⟩
      have l0 := AH.get_lt sg0
      have l1 := AH.get_lt sg1
      have l2 := AH.get_lt sg2
      have q0 : ¬ 0 = σ.next := by omega
      have q1 : ¬ 1 = σ.next := by omega
      have q2 : ¬ 2 = σ.next := by omega
      by_cases hiA : i < A.length
      · have hiA' : (i : Int) < A.length := by omega
        have hiH' : (i : Int) < H.length := by omega
        rcases hst with ⟨rfl, h1, h2, hin⟩ | ⟨rfl, hno⟩
        · by_cases hw : (nth A i).lo ≤ nth H i ∧ nth H i ≤ (nth A i).hi
          · obtain ⟨b1, b2, b3, b4, b5⟩ := hok.2.2.2.1 i hiA
            obtain ⟨p, hp⟩ : ∃ p : Nat, (nth A i).t = p := ⟨(nth A i).t.toNat, by omega⟩
            obtain ⟨r, hr⟩ : ∃ r : Nat, (nth A i).s = r := ⟨(nth A i).s.toNat, by omega⟩
            have p1 : p < N := by omega
            have r1 : r < C.length := by omega
            have p1' : (p : Int) < N := by omega
            have r1' : (r : Int) < C.length := by omega
            have p2 : p + 1 ≤ N := by omega
            have r2 : r + 1 ≤ C.length := by omega
            have il1 := iC_len L1
            have il2 := iC_len L2
            rw [len1] at il1
            rw [len2] at il2
            have g1 := iC_get (xs := L1) (q := p) (by omega)
            have g2 := iC_get (xs := L2) (q := r) (by omega)
            have ss1 := fun y => iC_set L1 p y
            have ss2 := fun y => iC_set L2 r y
            have v1 : nth L1 p = sBy (fun a => decide (a.t = (p : Int))) (A.take i) (H.take i) := by rw [h1]; exact sumsL_nth An.t _ _ p1
            have v2 : nth L2 r = sBy (fun a => decide (a.s = (r : Int))) (A.take i) (H.take i) := by rw [h2]; exact sumsL_nth An.s _ _ r1
            have w1 := hbH i (by omega) hin (fun a => decide (a.t = (p : Int)))
            have w2 := hbH i (by omega) hin (fun a => decide (a.s = (r : Int)))
            have e1 := sumsL_succ An.t N hiA hl hp p1
            have e2 := sumsL_succ An.s C.length hiA hl hr r1
            rw [← h1, ← v1] at e1
            rw [← h2, ← v2] at e2
            have z1 : 1 < σ.next + 1 := by omega
            have z2 : 2 < σ.next + 1 := by omega
            have z3 : ¬ σ.next = 1 := by omega
            have z4 : ¬ σ.next = 2 := by omega
            simp (disch := omega) [Und, eqf1, eqf2, s0, sg0, sg1, sg2, l0, l1, l2, q0, q1, q2, z1, z2, z3, z4, hiA', hiH', hw, hp, hr, p1, r1, p1', r1', p2, r2, il1, il2, g1, g2, ss1, ss2, -Bool.exists_bool, -getElem?_pos]
            refine ⟨q - 1, by omega, i + 1, by omega, true, ⟨rfl, by omega⟩, by omega, _, rfl, _, rfl, by simpa using len1, by simpa using len2, .inl ⟨rfl, e1, e2, fun j hj => ?_⟩⟩
            by_cases e : j = i
            · rw [e]; exact hw
            · exact hin j (by omega)
          · have hno : ¬ clD N C A H := fun h => hw (h.1.2 i hiA)
            simp (disch := omega) [Und, eqf1, eqf2, s0, sg0, sg1, sg2, l0, l1, l2, q0, q1, q2, hiA', hiH', eq_false hw, -Bool.exists_bool, -getElem?_pos]
            exact ⟨q - 1, by omega, i + 1, by omega, false, ⟨rfl, by omega⟩, by omega, L1, rfl, L2, rfl, len1, len2, .inr ⟨rfl, hno⟩⟩
        · simp (disch := omega) [Und, eqf1, eqf2, s0, sg0, sg1, sg2, l0, l1, l2, q0, q1, q2, hiA', hiH', -Bool.exists_bool, -getElem?_pos]
          exact ⟨q - 1, by omega, i + 1, by omega, false, ⟨rfl, by omega⟩, by omega, L1, rfl, L2, rfl, len1, len2, .inr ⟨rfl, hno⟩⟩
      · obtain rfl : i = A.length := by omega
        have hiH' : ¬ (A.length : Int) < H.length := by omega
        simp (disch := omega) [Und, eqf1, eqf2, s0, sg0, sg1, sg2, l0, l1, l2, hiH', -Bool.exists_bool, -getElem?_pos]
        refine lp_loop pl (fun q fr σ => ∃ (t : Nat) (ok : Bool), t + q = N ∧ fr = ⟨[(2, .ptr (some (0, 0))), (7, .slice (some (1, 0)) N (.ex N)), (8, .slice (some (2, 0)) C.length (.ex C.length)), (9, .bool ok), (12, .int .i64 t)], []⟩ ∧ σ.lim = 0 ∧ σ.get 0 = some (.cells [.int .i64 N, vl AV.bool nC C, vl eAn nA A]) ∧ σ.get 1 = some (.cells (iC L1)) ∧ σ.get 2 = some (.cells (iC L2)) ∧
            ((ok = true ∧ L1 = sumsL An.t N A H ∧ L2 = sumsL An.s C.length A H ∧ inA A H ∧ ∀ u, u < t → sBy (fun a => decide (a.t = (u : Nat))) A H = 648000) ∨ (ok = false ∧ ¬ clD N C A H)))
          ⟨N, 0, ok, by omega, rfl, s0, sg0, sg1, sg2, by
            rcases hst with ⟨h0, h1, h2, hin⟩ | h
            · rw [List.take_length, List.take_of_length_le (by omega)] at h1 h2
              exact .inl ⟨h0, h1, h2, ⟨hl, hin⟩, fun u hu => by omega⟩
            · exact .inr h⟩ ?_
        clear hst s0 sg0 sg1 sg2 l0 l1 l2 sn q0 q1 q2
        rintro q _ σ ⟨t, ok, ht, rfl, s0, sg0, sg1, sg2, hst⟩
        have l0 := AH.get_lt sg0
        have l1 := AH.get_lt sg1
        have l2 := AH.get_lt sg2
        have il1 := iC_len L1
        have il2 := iC_len L2
        rw [len1] at il1
        rw [len2] at il2
        rcases hst with ⟨rfl, h1, h2, hin, hsum⟩ | ⟨rfl, hno⟩
        · by_cases htN : t < N
          · have htN' : (t : Int) < N := by omega
            have tN1 : t + 1 ≤ N := by omega
            have g1 := iC_get (xs := L1) (q := t) (by omega)
            have v1 : nth L1 t = sBy (fun a => decide (a.t = (t : Int))) A H := by rw [h1]; exact sumsL_nth An.t _ _ htN
            rw [v1] at g1
            by_cases e : sBy (fun a => decide (a.t = (t : Int))) A H = 648000
            · simp (disch := omega) [Und, eqf1, eqf2, s0, sg0, sg1, sg2, l0, l1, l2, htN', tN1, htN, il1, g1, e, -Bool.exists_bool, -getElem?_pos]
              refine ⟨q - 1, by omega, t + 1, by omega, true, ⟨rfl, by omega⟩, .inl ⟨rfl, h1, h2, hin, fun u hu => ?_⟩⟩
              by_cases eu : u = t
              · rw [eu]; exact e
              · exact hsum u (by omega)
            · have hno : ¬ clD N C A H := fun h => e (h.2.1 t htN)
              simp (disch := omega) [Und, eqf1, eqf2, s0, sg0, sg1, sg2, l0, l1, l2, htN', tN1, htN, il1, g1, e, -Bool.exists_bool, -getElem?_pos]
              exact ⟨q - 1, by omega, t + 1, by omega, false, ⟨rfl, by omega⟩, .inr ⟨rfl, hno⟩⟩
          · obtain rfl : t = N := by omega
            simp (disch := omega) [Und, eqf1, eqf2, s0, sg0, sg1, sg2, l0, l1, l2, -Bool.exists_bool, -getElem?_pos]
            refine lp_loop pl (fun q fr σ => ∃ (u : Nat) (ok : Bool), u + q = C.length ∧ fr = ⟨[(2, .ptr (some (0, 0))), (8, .slice (some (2, 0)) C.length (.ex C.length)), (9, .bool ok), (13, .int .i64 u)], []⟩ ∧ σ.lim = 0 ∧ σ.get 0 = some (.cells [.int .i64 t, vl AV.bool nC C, vl eAn nA A]) ∧ σ.get 2 = some (.cells (iC L2)) ∧
                ((ok = true ∧ ∀ w, w < u → nth C w = true → sBy (fun a => decide (a.s = (w : Nat))) A H = 1296000) ∨ (ok = false ∧ ¬ clD t C A H)))
              ⟨C.length, 0, true, by omega, rfl, s0, sg0, sg2, .inl ⟨rfl, fun w hw => by omega⟩⟩ ?_
            clear s0 sg0 sg1 sg2 l0 l1 l2
            rintro q _ σ ⟨u, ok, hu, rfl, s0, sg0, sg2, hst⟩
            have l0 := AH.get_lt sg0
            have l2 := AH.get_lt sg2
            rcases hst with ⟨rfl, hsu⟩ | ⟨rfl, hno⟩
            · by_cases huC : u < C.length
              · have huC' : (u : Int) < C.length := by omega
                have uC1 : u + 1 ≤ C.length := by omega
                have g2 := iC_get (xs := L2) (q := u) (by omega)
                have v2 : nth L2 u = sBy (fun a => decide (a.s = (u : Int))) A H := by rw [h2]; exact sumsL_nth An.s _ _ huC
                rw [v2] at g2
                cases hc : nth C u
                · simp (disch := omega) [Und, eqf1, eqf2, s0, sg0, sg2, l0, l2, huC', uC1, huC, il2, g2, hc, -Bool.exists_bool, -getElem?_pos]
                  refine ⟨q - 1, by omega, u + 1, by omega, true, ⟨rfl, by omega⟩, .inl ⟨rfl, fun w hw hb => ?_⟩⟩
                  by_cases ew : w = u
                  · rw [ew, hc] at hb; cases hb
                  · exact hsu w (by omega) hb
                · by_cases e : sBy (fun a => decide (a.s = (u : Int))) A H = 1296000
                  · simp (disch := omega) [Und, eqf1, eqf2, s0, sg0, sg2, l0, l2, huC', uC1, huC, il2, g2, hc, e, -Bool.exists_bool, -getElem?_pos]
                    refine ⟨q - 1, by omega, u + 1, by omega, true, ⟨rfl, by omega⟩, .inl ⟨rfl, fun w hw hb => ?_⟩⟩
                    by_cases ew : w = u
                    · rw [ew]; exact e
                    · exact hsu w (by omega) hb
                  · have hno : ¬ clD t C A H := fun h => e (h.2.2 u huC hc)
                    simp (disch := omega) [Und, eqf1, eqf2, s0, sg0, sg2, l0, l2, huC', uC1, huC, il2, g2, hc, e, -Bool.exists_bool, -getElem?_pos]
                    exact ⟨q - 1, by omega, u + 1, by omega, false, ⟨rfl, by omega⟩, .inr ⟨rfl, hno⟩⟩
              · obtain rfl : u = C.length := by omega
                have hyes : clD t C A H := ⟨hin, hsum, hsu⟩
                simp (disch := omega) [Und, eqf1, eqf2, s0, sg0, sg2, l0, l2, hyes, -Bool.exists_bool, -getElem?_pos]
                rw [if_pos hok, if_pos hl]
            · simp (disch := omega) [Und, eqf1, eqf2, s0, sg0, sg2, l0, l2, hno, -Bool.exists_bool, -getElem?_pos]
              rw [if_pos hok, if_pos hl]
        · simp (disch := omega) [Und, eqf1, eqf2, s0, sg0, sg1, sg2, l0, l1, l2, -Bool.exists_bool, -getElem?_pos]
          refine lp_loop pl (fun q fr σ => fr = ⟨[(2, .ptr (some (0, 0))), (8, .slice (some (2, 0)) C.length (.ex C.length)), (9, .bool false), (13, .int .i64 0)], []⟩ ∧ σ.lim = 0) ⟨0, rfl, s0⟩ ?_
          rintro q _ σ ⟨rfl, s0⟩
          simp (disch := omega) [Und, s0, hno, -Bool.exists_bool]
          rw [if_pos hok, if_pos hl]
    · have hl' : ¬ (H.length : Int) = A.length := by omega
      simp (disch := omega) [eNet, hck, hok, hl', hl, Und, -Bool.exists_bool]
  · rw [if_neg hok] at hck
    simp (disch := omega) [eNet, hck, hok, Und, -Bool.exists_bool]
end Go.Oct.Rounds
