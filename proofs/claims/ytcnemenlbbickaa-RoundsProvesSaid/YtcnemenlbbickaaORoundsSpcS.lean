/- The specification's spans. -/
import Derived.Test.YtcnemenlbbickaaORoundsSpcC
import Derived.Test.YtcnemenlbbickaaOT4
set_option maxRecDepth 100000
set_option maxHeartbeats 8000000
set_option linter.unusedVariables false
set_option linter.unusedSimpArgs false
namespace Go.Oct.Rounds
open Go.Oct
section
variable {N : Nat} {C : List Bool} {A : List An}
theorem flatSp : flatE eSpan := fun x c hc k f => by
  simp at hc
  rcases hc with rfl | rfl <;> exact ⟨rfl, rfl⟩
/-- What the specification's spans answer. -/
inductive SpcV (N : Nat) (C : List Bool) (A : List An) : AV → Prop
  | no : Proved N C A → SpcV N C A (.tuple [vl eSpan true [], .bool false])
  | yes (out : List Span) : SpI N C A (fun _ _ => True) out → SpcV N C A (.tuple [vl eSpan false out, .bool true])
/-- The cuts that were looked at, before the given one. -/
def Dn (N m : Nat) (tr st : Nat) (P Q : List Int) : Prop := ∃ t s, t < 2 ^ N ∧ s < 2 ^ m ∧ P = pM t N ∧ Q = pM s m ∧ (t < tr ∨ t = tr ∧ s < st)
theorem SpI.imp {D D' : List Int → List Int → Prop} {out : List Span} (h : SpI N C A D out) (hd : ∀ P Q, okPf N C P Q → D' P Q → D P Q) : SpI N C A D' out :=
  ⟨h.len, h.own, fun P Q h1 h2 => h.cut P Q (hd P Q h2 h1) h2, h.snd⟩
theorem Dn_step {m tr st : Nat} {P Q : List Int} (h : Dn N m tr (st + 1) P Q) : Dn N m tr st P Q ∨ (P = pM tr N ∧ Q = pM st m) := by
  obtain ⟨t, s, h1, h2, h3, h4, h5⟩ := h
  by_cases e : t = tr ∧ s = st
  · obtain ⟨rfl, rfl⟩ := e; exact .inr ⟨h3, h4⟩
  · exact .inl ⟨t, s, h1, h2, h3, h4, by omega⟩
theorem Dn_row {m tr : Nat} {P Q : List Int} (h : Dn N m (tr + 1) 0 P Q) : Dn N m tr (2 ^ m) P Q := by
  obtain ⟨t, s, h1, h2, h3, h4, h5⟩ := h
  exact ⟨t, s, h1, h2, h3, h4, by omega⟩
theorem Dn_all {P Q : List Int} (h : okPf N C P Q) : Dn N C.length (2 ^ N) 0 P Q := by
  obtain ⟨t, t1, t2⟩ := pM_all (n := N) h.1
  obtain ⟨s, s1, s2⟩ := pM_all (n := C.length) h.2.1
  exact ⟨t, s, t1, s1, t2, s2, .inl t1⟩
theorem okPf_mask {tr st a : Nat} (ha : ∀ k, k < C.length → decide (a / 2 ^ k % 2 = 1) = nth C k) (hst : st < 2 ^ C.length) : okPf N C (pM tr N) (pM st C.length) ↔ ∀ k, st / 2 ^ k % 2 = 1 → a / 2 ^ k % 2 = 1 := by
  constructor
  · intro h k hk
    have hkC : k < C.length := by
      by_cases e : k < C.length
      · exact e
      · have : st < 2 ^ k := Nat.lt_of_lt_of_le hst (Nat.pow_le_pow_right (by decide) (by omega))
        rw [bit_hi this] at hk; omega
    have hm : (k : Int) ∈ pM st C.length := by
      rw [← List.contains_iff_mem, pM_has st hkC]; exact decide_eq_true hk
    obtain ⟨i, hi, he⟩ := mem_nth.1 hm
    have := h.2.2 i hi
    rw [he, Int.toNat_natCast, ← ha k hkC] at this
    exact of_decide_eq_true this
  · intro h
    refine ⟨pM_rise _ _, pM_rise _ _, fun i hi => ?_⟩
    have hm := nth_mem hi
    unfold pM at hm
    rw [sel_mem] at hm
    obtain ⟨k, h1, h2, h3⟩ := hm
    have h3' : nth (pM st C.length) i = k := by first | exact h3 | exact h3.symm
    rw [h3', Int.toNat_natCast, ← ha k h1]
    exact decide_eq_true (h k (of_decide_eq_true h2))
theorem sspans_ok (nC : Bool) (nA : Bool) (hok : okNet N C A) : ∃ v, SpcV N C A v ∧ ans prog O 64 [eNet N nC C nA A] = some v := by
  have hN := hok.1
  have hC := hok.2.1
  have hA3 := hok.2.2.1
  obtain ⟨a, ha1, ha2, ha3⟩ := closed_ok nC nA hok
  have hcut := fun tr st (h1 : tr < 2 ^ N) (h2 : st < 2 ^ C.length) => cutOf_ok nC nA hok h1 h2
  have hp8 : (2 : Nat) ^ N ≤ 2 ^ 8 := Nat.pow_le_pow_right (by decide) (by omega)
  have hc8 : (2 : Nat) ^ C.length ≤ 2 ^ 8 := Nat.pow_le_pow_right (by decide) (by omega)
  have sh1 := abin_shl1 N (by omega)
  have sh2 := abin_shl1 C.length (by omega)
  unfold eNet at ha3 hcut
  refine fn_ex pl _ get64 (oo (by decide)) rfl rfl ?_
  simp (disch := omega) [eNet, -Bool.exists_bool]
  refine lp_loop pl (fun q fr σ => ∃ (i : Nat) (v : AV), i + q = A.length ∧ fr = ⟨[(1, .ptr (some (0, 0))), (4, v), (5, .int .i64 i)], []⟩ ∧ σ.lim = 0 ∧ 1 ≤ σ.next ∧ σ.get 0 = some (.cells [.int .i64 N, vl AV.bool nC C, vl eAn nA A]) ∧ Buf 1 2 eSpan σ v ((ownS A).take i))
    ⟨A.length, 0, .vsl true [], by omega, rfl, rfl, by simp, by simp, Buf.nil⟩ ?_
  rintro q _ σ ⟨i, v, hi, rfl, s0, sn, sg, hb⟩
  have l0 := AH.get_lt sg
  have hol : (ownS A).length = A.length := by simp [ownS]
  by_cases hiA : i < A.length
  · have hiA' : (i : Int) < A.length := by omega
    simp (disch := omega) [Und, s0, sg, l0, hiA', -Bool.exists_bool]
    have htl : ((ownS A).take i).length = i := by rw [List.length_take]; omega
    refine hb.push encSpan (by omega) (by omega) (⟨(nth A i).lo, (nth A i).hi⟩ : Span) (by simp only [topBytes]; omega) rfl fun v' σ' h3 h4 => ?_
    have h4l := h4.lim
    have h4n := h4.next
    simp (disch := omega) [-Bool.exists_bool]
    refine ⟨q - 1, by omega, i + 1, by omega, v', ⟨rfl, by omega⟩, by omega, by omega, (h4.get 0 (by omega)).trans sg, ?_⟩
    rw [take_succ_nth (by omega), ownS_nth hiA]; exact h3
  · obtain rfl : i = A.length := by omega
    rw [List.take_of_length_le (by omega)] at hb
    rcases hb with ⟨rfl, hx⟩ | ⟨o, rfl, o1, o2, _⟩
    · rw [hx] at hol; simp at hol; omega
    rw [hol]
    have lo := AH.get_lt o2
    simp (disch := omega) [Und, s0, sg, l0, ha3, -Bool.exists_bool]
    obtain ⟨pN, hpN⟩ : ∃ pN : Nat, pN = 2 ^ N := ⟨_, rfl⟩
    obtain ⟨pC, hpC⟩ : ∃ pC : Nat, pC = 2 ^ C.length := ⟨_, rfl⟩
    rw [← hpN] at sh1 hp8
    rw [← hpC] at sh2 hc8 ha1
    simp only [← hpN, ← hpC] at hcut
    refine lp_loop pl (fun q fr σ => ∃ (tr : Nat) (out : List Span), tr + q = pN ∧ fr = ⟨[(1, .ptr (some (0, 0))), (4, .slice (some (o, 0)) A.length (.op 2)), (6, .int .i64 (a : Int)), (7, .int .i64 tr)], []⟩ ∧ σ.lim = 0 ∧ σ.get 0 = some (.cells [.int .i64 N, vl AV.bool nC C, vl eAn nA A]) ∧
        σ.get o = some (.cells (rowOf eSpan out)) ∧ SpI N C A (Dn N C.length tr 0) out)
      ⟨pN, 0, ownS A, by omega, rfl, s0, sg, o2, SpI.start fun P Q h => by obtain ⟨t, s, _, _, _, _, h5⟩ := h; omega⟩ ?_
    rintro q1 _ σ1 ⟨tr, out, htr, rfl, t0, tg, to, hI⟩
    have l0 := AH.get_lt tg
    have lo := AH.get_lt to
    by_cases htrN : tr < pN
    · have htrN' : (tr : Int) < pN := by omega
      simp (disch := omega) [Und, t0, tg, l0, sh1, htrN', -Bool.exists_bool]
      refine lp_loop pl (fun q fr σ => ∃ (st : Nat) (out : List Span), st + q = pC ∧ fr = ⟨[(1, .ptr (some (0, 0))), (4, .slice (some (o, 0)) A.length (.op 2)), (6, .int .i64 (a : Int)), (7, .int .i64 tr), (8, .int .i64 st)], []⟩ ∧ σ.lim = 0 ∧ σ.get 0 = some (.cells [.int .i64 N, vl AV.bool nC C, vl eAn nA A]) ∧
          σ.get o = some (.cells (rowOf eSpan out)) ∧ SpI N C A (Dn N C.length tr st) out)
        ⟨pC, 0, out, by omega, rfl, t0, tg, to, hI⟩ ?_
      rintro q2 _ σ2 ⟨st, out2, hst, rfl, u0, ug, uo, hI2⟩
      have l0 := AH.get_lt ug
      have lo := AH.get_lt uo
      by_cases hstC : st < pC
      · have hstC' : (st : Int) < pC := by omega
        obtain ⟨d, hd1, hd2⟩ := abin_andNot (s := st) (a := a) (by omega) (by omega)
        have hmk := okPf_mask (N := N) (tr := tr) ha2 (by omega : st < 2 ^ C.length)
        by_cases hd : d = 0
        · have hp := hmk.2 (hd2.1 hd)
          rw [hd] at hd1
          have hcu := hcut tr st htrN hstC
          have hsd : ∀ i, i < A.length → ans prog O 76 [.agg [.int .i64 (nth A i).t, .int .i64 (nth A i).s, .int .i64 (nth A i).lo, .int .i64 (nth A i).hi], .int .i64 (tr : Int), .int .i64 (st : Int)] = some (.int .i64 (sideP (pM tr N) (pM st C.length) (nth A i))) := fun i hi => side_ok (hok.2.2.2.1 i hi) (by omega) (by omega)
          obtain ⟨P, hP⟩ : ∃ P, P = pM tr N := ⟨_, rfl⟩
          obtain ⟨Q, hQ⟩ : ∃ Q, Q = pM st C.length := ⟨_, rfl⟩
          rw [← hP, ← hQ] at hp hcu
          simp only [← hP, ← hQ] at hsd
          have hbd := okNet_cut hok P Q A.length (Nat.le_refl _)
          rw [List.take_length] at hbd
          have hmu : -648000 * 24 ≤ mustP P Q ∧ mustP P Q ≤ 648000 * 24 := by
            have x1 := pM_len tr N
            have x2 := pM_len st C.length
            rw [← hP] at x1
            rw [← hQ] at x2
            unfold mustP; omega
          by_cases v1 : cHi A P Q < mustP P Q
          · simp (disch := omega) [Und, u0, ug, uo, l0, lo, sh2, hstC', hd1, hcu, v1, -Bool.exists_bool]
            exact .no ⟨P, Q, true, hp, by unfold hold; simpa using v1⟩
          · by_cases v2 : mustP P Q < cLo A P Q
            · simp (disch := omega) [Und, u0, ug, uo, l0, lo, sh2, hstC', hd1, hcu, v1, v2, -Bool.exists_bool]
              exact .no ⟨P, Q, false, hp, by unfold hold; simpa using v2⟩
            · simp (disch := omega) [Und, u0, ug, uo, l0, lo, sh2, hstC', hd1, hcu, v1, v2, -Bool.exists_bool]
              have n1 : ¬ hold A P Q true := by unfold hold; simpa using v1
              have n2 : ¬ hold A P Q false := by unfold hold; simpa using v2
              refine lp_loop pl (fun q fr σ => ∃ (j : Nat) (out' : List Span), j + q = A.length ∧ fr = ⟨[(1, .ptr (some (0, 0))), (4, .slice (some (o, 0)) A.length (.op 2)), (6, .int .i64 (a : Int)), (7, .int .i64 tr), (8, .int .i64 st), (9, .ptr (some (σ2.next, 0))), (10, .int .i64 j)], []⟩ ∧ σ.lim = 0 ∧ σ2.next < σ.next ∧
                  σ.get 0 = some (.cells [.int .i64 N, vl AV.bool nC C, vl eAn nA A]) ∧ σ.get σ2.next = some (.cells [.int .i64 (mustP P Q), .int .i64 (cLo A P Q), .int .i64 (cHi A P Q)]) ∧
                  σ.get o = some (.cells (rowOf eSpan out')) ∧ out'.length = A.length ∧ (∀ k, k < j → nth out' k = updS A P Q k (nth out2 k)) ∧ ∀ k, j ≤ k → nth out' k = nth out2 k)
                ⟨A.length, 0, out2, by omega, rfl, by first | exact u0 | rfl, by simp, by simp (disch := omega) [ug, show ¬ 0 = σ2.next by omega], by simp, by simp (disch := omega) [uo, show ¬ o = σ2.next by omega], hI2.len, fun k hk => by omega, fun k _ => rfl⟩ ?_
              rintro q3 _ σ3 ⟨j, out3, hj, rfl, w0, wn, wg, wc, wo, wl, wd, wr⟩
              have m0 := AH.get_lt wg
              have mc := AH.get_lt wc
              have mo := AH.get_lt wo
              by_cases hjA : j < A.length
              · have hjA' : (j : Int) < A.length := by omega
                have hsj := hsd j hjA
                have hbj := okNet_bd hok (nth A j) (nth_mem hjA)
                have rl := rowOf_length encSpan out3
                have c0 := row_cell encSpan (xs := out3) (j := j) (c := 0) (by omega) (by omega)
                have c1 := row_cell encSpan (xs := out3) (j := j) (c := 1) (by omega) (by omega)
                have rs := fun (s : Span) => rowOf_set encSpan (xs := out3) (j := j) (by omega) s
                simp at rl c0 c1 rs
                have i1 : j * 2 + 1 + 1 ≤ A.length * 2 := by omega
                have i2 : j * 2 + 1 ≤ A.length * 2 := by omega
                have i3 : j * 2 + 2 ≤ A.length * 2 := by omega
                have z1 : ¬ σ3.next = o := by omega
                have z2 : ¬ o = σ3.next := by omega
                have z3 : ¬ σ3.next = σ2.next := by omega
                have z4 : ¬ σ2.next = σ3.next := by omega
                have z5 : ¬ o = σ2.next := by omega
                have z6 : σ3.next < σ3.next + 1 := by omega
                have hst2 : ∀ s' : Span, s' = updS A P Q j (nth out2 j) → (out3.set j s').length = A.length ∧ (∀ k, k < j + 1 → nth (out3.set j s') k = updS A P Q k (nth out2 k)) ∧ ∀ k, j + 1 ≤ k → nth (out3.set j s') k = nth out2 k := fun s' hs' => by
                  refine ⟨by simpa using wl, fun k hk => ?_, fun k hk => ?_⟩
                  · rw [nth_set (by omega)]
                    by_cases e : k = j
                    · rw [if_pos e, e]; exact hs'
                    · rw [if_neg e]; exact wd k (by omega)
                  · rw [nth_set (by omega), if_neg (by omega)]; exact wr k (by omega)
                have hoj := wr j (Nat.le_refl _)
                rcases sideP_cases P Q (nth A j) with e | e | e
                · rw [e] at hsj
                  have r1 := rs ⟨max (nth out3 j).lo ((nth A j).hi - (cHi A P Q - mustP P Q)), min (nth out3 j).hi ((nth A j).lo + (mustP P Q - cLo A P Q))⟩
                  simp (disch := omega) [Und, eqf1, eqf2, w0, wg, wc, wo, m0, mc, mo, wl, hjA', hsj, rl, c0, c1, r1, i1, i2, i3, z1, z2, z3, z4, z5, z6, -Bool.exists_bool, -getElem?_pos]
                  refine ⟨q3 - 1, by omega, j + 1, by omega, by omega, by omega, _, if_pos (by omega), ?_⟩
                  exact hst2 _ (by unfold updS lbd ubd; rw [if_neg (by rw [e]; decide), if_pos e, if_pos e, hoj])
                · rw [e] at hsj
                  have r1 := rs ⟨max (nth out3 j).lo ((nth A j).hi - (mustP P Q - cLo A P Q)), min (nth out3 j).hi ((nth A j).lo + (cHi A P Q - mustP P Q))⟩
                  simp (disch := omega) [Und, eqf1, eqf2, w0, wg, wc, wo, m0, mc, mo, wl, hjA', hsj, rl, c0, c1, r1, i1, i2, i3, z1, z2, z3, z4, z5, z6, -Bool.exists_bool, -getElem?_pos]
                  refine ⟨q3 - 1, by omega, j + 1, by omega, by omega, by omega, _, if_pos (by omega), ?_⟩
                  exact hst2 _ (by unfold updS lbd ubd; rw [if_neg (by rw [e]; decide), if_neg (by rw [e]; decide), if_neg (by rw [e]; decide), hoj])
                · rw [e] at hsj
                  simp (disch := omega) [Und, eqf1, eqf2, w0, wg, wc, wo, m0, mc, mo, wl, hjA', hsj, rl, c0, c1, i1, i2, i3, z1, z2, z3, z4, z5, z6, -Bool.exists_bool, -getElem?_pos]
                  refine ⟨q3 - 1, by omega, j + 1, by omega, by omega, by omega, out3, rfl, wl, fun k hk => ?_, fun k hk => wr k (by omega)⟩
                  by_cases ek : k = j
                  · rw [ek]; unfold updS; rw [if_pos e]; exact hoj
                  · exact wd k (by omega)
              · obtain rfl : j = A.length := by omega
                simp (disch := omega) [Und, w0, wg, wo, m0, mo, -Bool.exists_bool]
                refine ⟨q2 - 1, by omega, st + 1, by omega, by omega, out3, rfl, ?_⟩
                exact hI2.next hok hp n1 n2 wl (fun k hk => wd k hk) fun P' Q' h => by rw [hP, hQ]; exact Dn_step h
        · have hnp : ¬ okPf N C (pM tr N) (pM st C.length) := fun h => hd (hd2.2 (hmk.1 h))
          simp (disch := omega) [Und, u0, ug, uo, l0, lo, sh2, hstC', hd1, hd, -Bool.exists_bool]
          refine ⟨q2 - 1, by omega, st + 1, by omega, by omega, out2, rfl, hI2.imp fun P Q hp hD => ?_⟩
          rcases Dn_step hD with h | ⟨rfl, rfl⟩
          · exact h
          · exact absurd hp hnp
      · obtain rfl : st = pC := by omega
        simp (disch := omega) [Und, u0, ug, uo, l0, lo, sh2, -Bool.exists_bool]
        refine ⟨q1 - 1, by omega, tr + 1, by omega, by omega, out2, rfl, hI2.imp fun P Q _ hD => ?_⟩
        rw [hpC]
        exact Dn_row hD
    · obtain rfl : tr = pN := by omega
      simp (disch := omega) [Und, t0, tg, to, l0, lo, sh1, -Bool.exists_bool]
      have hfz := fz_whole encSpan flatSp (f := σ1.cel) (o := o) (xs := out) (c := .op 2) (by simp [to]) (.inl rfl) 5
      rw [hI.len] at hfz
      rw [hfz]
      exact .yes out (hI.imp fun P Q hp _ => by rw [hpN]; exact Dn_all hp)
end
end Go.Oct.Rounds
