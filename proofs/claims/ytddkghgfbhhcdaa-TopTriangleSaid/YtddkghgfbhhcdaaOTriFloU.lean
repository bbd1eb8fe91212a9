/- Nets: angles are given seconds until they close, walked. -/
import Derived.Test.YtddkghgfbhhcdaaOTriFloT
set_option maxRecDepth 100000
set_option maxHeartbeats 8000000
set_option linter.unusedVariables false
set_option linter.unusedSimpArgs false
namespace Go.Oct.Tri
open Go.Oct
/-- A slice of numbers, nil or in an object of its own. -/
def SlI (σ : AH) (v : AV) (g : List Int) : Prop := (v = .vsl true [] ∧ g = []) ∨ Whole 0 1 (AV.int .i64) σ v g
theorem SlI.of {σ : AH} {v : AV} {g : List Int} (h : Buf 0 1 (AV.int .i64) σ v g) : SlI σ v g := by
  rcases h with h | ⟨i, h1, h2, h3, h4⟩
  · exact .inl h
  · exact .inr ⟨i, .op 1, h1, h2, h3, .inl rfl⟩
theorem SlI.fz {σ : AH} {v : AV} {g : List Int} (h : SlI σ v g) (k : Nat) : ∃ nl, fzV (k + 2) σ.cel v = vs nl g := by
  rcases h with ⟨rfl, rfl⟩ | h
  · exact ⟨true, rfl⟩
  · exact ⟨false, h.fz encI flatI k⟩
theorem SlI.keep {σ σ' : AH} {v : AV} {g : List Int} (h : SlI σ v g) (hk : ∀ k, k < σ.next → k ∈ obj v → σ'.get k = σ.get k) : SlI σ' v g := by
  rcases h with h | ⟨i, c, rfl, h2, h3, h4⟩
  · exact .inl h
  · exact .inr ⟨i, c, rfl, h2, by rw [hk i (AH.get_lt h3) (by simp [obj])]; exact h3, h4⟩
theorem SlI.cel {σ : AH} {v : AV} {g : List Int} (h : SlI σ v g) : v.cells = [v] ∧ v.dfd = true ∧ v.one = true := by
  rcases h with ⟨rfl, rfl⟩ | ⟨i, c, rfl, h2, h3, h4⟩
  · exact ⟨rfl, rfl, rfl⟩
  · exact ⟨rfl, rfl, rfl⟩
section
variable {N : Nat} {nC : Bool} {aA : AV} {C : List Bool} {A : List An}
/-- A proof, in the heap, that holds. -/
structure PfAt (N : Nat) (C : List Bool) (A : List An) (lo : Nat) (σ : AH) (v1 v2 : AV) (small : Bool) : Prop where
  lo : ∀ x, (x ∈ obj v1 ∨ x ∈ obj v2) → lo ≤ x
  is : ∃ P Q, SlI σ v1 P ∧ SlI σ v2 Q ∧ okPf N C P Q ∧ hold A P Q small
theorem rise_one {x n : Int} (h0 : 0 ≤ x) (h1 : x < n) : rise [x] n := fun i hi => by
  have : i = 0 := by simpa using hi
  subst this
  rw [if_pos rfl]
  show -1 < x ∧ x < n
  omega
theorem rise_nil (n : Int) : rise [] n := fun i hi => by simp at hi
theorem small_tri (hok : okNet N C A) {L : List Int} (hsum : ∀ p, p < 16 → nth L p + sAt (edges C A) (lows A) p = Bt0 N C p) {t : Nat} (ht : t < N) (hl : nth L t < 0) : okPf N C [(t : Int)] [] ∧ hold A [(t : Int)] [] false := by
  have hN := hok.1
  have hp : okPf N C [(t : Int)] [] := ⟨rise_one (by omega) (by omega), rise_nil _, fun i hi => by simp at hi⟩
  have hte : Tells N C (fun p => decide (p = t)) [(t : Int)] [] := by
    refine ⟨fun x h0 h1 => ?_, fun x h0 h1 => ?_, by simp; omega⟩
    · rw [Bool.eq_iff_iff]; simp; omega
    · have : ¬ 8 + x.toNat = t := by omega
      simp [this]
  refine ⟨hp, ?_⟩
  have hlo := tells_lo hok hte
  have h1 := sOf_low (cutE fun p => decide (p = t)) (edges C A) (lows A) (by simp [edges, lows]) fun i hi => by
    rw [edges_len] at hi
    refine ⟨fun _ => by rw [edges_nth C hi, lows_nth hi]; rfl, fun h => ?_⟩
    rw [cutE_neg] at h
    have := (okE_edges hok).2 i (by rw [edges_len]; exact hi)
    simp at h; omega
  have h2 := cut_sum (fun p => decide (p = t)) (edges C A) (lows A) (nth_lt_mem (okE_edges hok)) (by simp [edges, lows])
  have s1 : sumN (fun k => ind (fun p => decide (p = t)) k * sAt (edges C A) (lows A) k) 8 = sAt (edges C A) (lows A) t := by
    rw [sumN_congr 8 (g := fun k => if k = t then sAt (edges C A) (lows A) t else 0) fun k hk => ?_, sumN_one, if_pos (by omega)]
    unfold ind
    by_cases e : k = t
    · subst e; simp
    · simp [e]
  have s2 : sumN (fun s => ind (fun p => decide (p = t)) (8 + s) * sAt (edges C A) (lows A) (8 + s)) 9 = 0 := by
    rw [sumN_congr 9 (g := fun _ => 0) fun k hk => ?_, sumN_zero]
    unfold ind
    have : ¬ 8 + k = t := by omega
    simp [this]
  rw [s1, s2] at h2
  have h3 := hsum t (by omega)
  have hb : Bt0 N C t = 648000 := by unfold Bt0; rw [if_pos (by omega)]
  unfold hold mustP
  rw [if_neg (by simp)]
  simp only [List.length_singleton, List.length_nil]
  omega
theorem small_sta (hok : okNet N C A) {L : List Int} (hsum : ∀ p, p < 16 → nth L p + sAt (edges C A) (lows A) p = Bt0 N C p) {s : Nat} (hs : s < C.length) (hl : nth L (8 + s) < 0) : okPf N C [] [(s : Int)] ∧ hold A [] [(s : Int)] true := by
  have hC := hok.2.1
  have hN := hok.1
  have hc : nth C s = true := by
    cases h : nth C s with
    | true => rfl
    | false =>
      have hb : Bt0 N C (8 + s) = 0 := by unfold Bt0; rw [if_neg (by omega), if_neg (by rw [Nat.add_sub_cancel_left, h]; simp)]
      have h1 := hsum (8 + s) (by omega)
      rw [at_none hok (lows A) (by omega) hb, hb] at h1
      omega
  have hp : okPf N C [] [(s : Int)] := ⟨rise_nil _, rise_one (by omega) (by omega), fun i hi => by
    have : i = 0 := by simpa using hi
    subst this; simpa using hc⟩
  have hte : Tells N C (fun p => decide (p = 8 + s)) [] [(s : Int)] := by
    refine ⟨fun x h0 h1 => ?_, fun x h0 h1 => ?_, by simp; omega⟩
    · have : ¬ x.toNat = 8 + s := by omega
      simp [this]
    · by_cases e : x = s
      · subst e; simp [hc]
      · have : ¬ x.toNat = s := by omega
        have e2 : ¬ 8 + x.toNat = 8 + s := by omega
        simp [e, this]
  refine ⟨hp, ?_⟩
  have hhi := tells_hi hok hte
  have h1 := sOf_high (cutE fun p => decide (p = 8 + s)) (edges C A) (lows A) (by simp [edges, lows]) fun i hi => by
    rw [edges_len] at hi
    refine ⟨fun h => ?_, fun _ => by rw [edges_nth C hi, lows_nth hi]; rfl⟩
    rw [cutE_pos] at h
    have := (okE_edges hok).2 i (by rw [edges_len]; exact hi)
    simp at h; omega
  have h2 := cut_sum (fun p => decide (p = 8 + s)) (edges C A) (lows A) (nth_lt_mem (okE_edges hok)) (by simp [edges, lows])
  have s1 : sumN (fun k => ind (fun p => decide (p = 8 + s)) k * sAt (edges C A) (lows A) k) 8 = 0 := by
    rw [sumN_congr 8 (g := fun _ => 0) fun k hk => ?_, sumN_zero]
    unfold ind
    have : ¬ k = 8 + s := by omega
    simp [this]
  have s2 : sumN (fun k => ind (fun p => decide (p = 8 + s)) (8 + k) * sAt (edges C A) (lows A) (8 + k)) 9 = sAt (edges C A) (lows A) (8 + s) := by
    rw [sumN_congr 9 (g := fun k => if k = s then sAt (edges C A) (lows A) (8 + s) else 0) fun k hk => ?_, sumN_one, if_pos (by omega)]
    unfold ind
    by_cases e : k = s
    · subst e; simp
    · have : ¬ 8 + k = 8 + s := by omega
      simp [e]
  rw [s1, s2] at h2
  have h3 := hsum (8 + s) (by omega)
  have hb : Bt0 N C (8 + s) = 1296000 := by unfold Bt0; rw [if_neg (by omega), if_pos ⟨by omega, by omega, by rw [Nat.add_sub_cancel_left]; exact hc⟩]
  unfold hold mustP
  rw [if_pos rfl]
  simp only [List.length_singleton, List.length_nil]
  omega
theorem settle_call (hok : okNet N C A) {n i : Nat} {L : List Int} {σ : AH} (hn : NetI N nC C aA (edges C A) n i (lows A) L σ) (hsum : ∀ p, p < 16 → nth L p + sAt (edges C A) (lows A) p = Bt0 N C p) (h16 : nth L 16 = 0) {K : AV → AH → Prop}
    (hk1 : ∀ h' L' σ', NetI N nC C aA (edges C A) n i h' L' σ' → isCl N C A h' → Only [n, i] σ σ' → K (.tuple [.agg [.vsl true [], .vsl true [], .bool false], .bool true]) σ')
    (hk2 : ∀ v1 v2 small σ', PfAt N C A σ.next σ' v1 v2 small → Only [n, i] σ σ' → K (.tuple [.agg [v1, v2, .bool small], .bool false]) σ') :
    Call prog O (.fn 50) [.ptr (some (n, 0))] σ K := by
  refine @call_of' _ _ pl _ _ _ _ _ _ _ ⟨K⟩ get50 ((oo (by decide)).2 _) rfl ?_
  have t0 := hn.lim
  have tnn := hn.net
  have ll := hn.ll
  have hnl := fun L => netC_len (T := (N : Int)) (nC := nC) (C := C) (aA := aA) (i := i) (m := (edges C A).length) (L := L)
  have ltn := AH.get_lt tnn
  have lti := AH.get_lt hn.ang
  have hN := hok.1
  have hC := hok.2.1
  simp (disch := omega) [eqf1, eqf2, Und, t0, tnn, hnl, ll, -Bool.exists_bool, -getElem?_pos]
  generalize hτ : AH.push (AH.push σ _) _ = τ
  have a0 : τ.lim = 0 := by rw [← hτ]; exact t0
  have an : τ.next = σ.next + 2 := by rw [← hτ]; rfl
  have ag : ∀ k, k < σ.next → τ.get k = σ.get k := fun k hk => by rw [← hτ]; simp (disch := omega) [eqf1, eqf2]
  have ab : τ.get σ.next = some (.cells [.ptr (some (n, 0))]) := by rw [← hτ]; simp (disch := omega) [eqf1, eqf2]
  have a2 : τ.get (σ.next + 1) = some (.cells [.vsl true [], .vsl true [], .bool false]) := by rw [← hτ]; simp (disch := omega) [eqf1, eqf2]
  clear hτ
  have lab := AH.get_lt ab
  have la2 := AH.get_lt a2
  have ann := (ag n ltn).trans tnn
  refine lp_loop pl (fun k fr υ => ∃ t : Nat, k + t = N ∧ fr = ⟨[(1, .ptr (some (σ.next, 0))), (2, .ptr (some (σ.next + 1, 0))), (12, .int .i64 N), (13, .int .i64 t)], []⟩ ∧ υ = τ ∧ ∀ s, s < t → 0 ≤ nth L s)
    ⟨N, 0, by omega, rfl, rfl, fun s hs => by omega⟩ ?_
  rintro k _ υ ⟨t, ht, rfl, hυ, hge⟩
  rw [hυ]
  clear hυ υ
  by_cases htN : t < N
  · have h1' : (t : Int) < N := by omega
    have h2' : (t : Int) < 17 := by omega
    have h4' : 4 + t + 1 ≤ 4 + 17 := by omega
    have hnp := netC_L (T := (N : Int)) (nC := nC) (C := C) (aA := aA) (i := i) (m := (edges C A).length) (L := L) (k := t) (by omega)
    by_cases hneg : nth L t < 0
    · simp (disch := omega) [eqf1, eqf2, Und, a0, ab, a2, ann, hnl, ll, hnp, hneg, h1', h2', h4', la2, lab, -Bool.exists_bool, -getElem?_pos]
      obtain ⟨p1, p2⟩ := small_tri hok hsum htN hneg
      refine hk2 _ _ _ _ ⟨fun x hx => ?_, _, _, .inr ⟨τ.next, .ex 1, rfl, Nat.zero_le _, ?_, .inr rfl⟩, .inl ⟨rfl, rfl⟩, p1, p2⟩ ?_
      rotate_left 2
      · exact ⟨a0.trans t0.symm, by show σ.next ≤ τ.next + 1; omega, fun q hq _ => by rw [AH.get_set_other _ _ _ _ (by omega), AH.get_push_old _ _ _ (by omega)]; exact ag q hq⟩
      · simp [obj] at hx; omega
      simp (disch := omega) [eqf1, eqf2]
      rfl
    · simp (disch := omega) [eqf1, eqf2, Und, a0, ab, ann, hnl, ll, hnp, hneg, h1', h2', h4', -Bool.exists_bool, -getElem?_pos]
      refine ⟨k - 1, by omega, t + 1, by omega, by omega, fun s hs => ?_⟩
      by_cases e : s = t
      · subst e; omega
      · exact hge s (by omega)
  · obtain rfl : t = N := by omega
    simp (disch := omega) [eqf1, eqf2, Und, a0, ab, ann, hnl, ll, -Bool.exists_bool, -getElem?_pos]
    refine lp_loop pl (fun k fr υ => ∃ s : Nat, k + s = C.length ∧ fr = ⟨[(1, .ptr (some (σ.next, 0))), (2, .ptr (some (σ.next + 1, 0))), (32, .int .i64 C.length), (33, .int .i64 s)], []⟩ ∧ υ = τ ∧ ∀ q, q < s → 0 ≤ nth L (8 + q))
      ⟨C.length, 0, by omega, rfl, rfl, fun s hs => by omega⟩ ?_
    rintro k2 _ υ ⟨s, hs, rfl, hυ, hge2⟩
    rw [hυ]
    clear hυ υ
    by_cases hsC : s < C.length
    · have h1' : (s : Int) < C.length := by omega
      have h2' : 8 + (s : Int) < 17 := by omega
      have h3' : 0 ≤ 8 + (s : Int) := by omega
      have h4' : 4 + (8 + s) + 1 ≤ 4 + 17 := by omega
      have h5' : (8 + (s : Int)).toNat = 8 + s := by omega
      have hnp := netC_L (T := (t : Int)) (nC := nC) (C := C) (aA := aA) (i := i) (m := (edges C A).length) (L := L) (k := 8 + s) (by omega)
      by_cases hneg : nth L (8 + s) < 0
      · simp (disch := omega) [eqf1, eqf2, Und, a0, ab, a2, ann, hnl, ll, hnp, hneg, h1', h2', h3', h4', h5', la2, lab, -Bool.exists_bool, -getElem?_pos]
        obtain ⟨p1, p2⟩ := small_sta hok hsum hsC hneg
        refine hk2 _ _ _ _ ⟨fun x hx => ?_, _, _, .inl ⟨rfl, rfl⟩, .inr ⟨τ.next, .ex 1, rfl, Nat.zero_le _, ?_, .inr rfl⟩, p1, p2⟩ ?_
        rotate_left 2
        · exact ⟨a0.trans t0.symm, by show σ.next ≤ τ.next + 1; omega, fun q hq _ => by rw [AH.get_set_other _ _ _ _ (by omega), AH.get_push_old _ _ _ (by omega)]; exact ag q hq⟩
        · simp [obj] at hx; omega
        simp (disch := omega) [eqf1, eqf2]
        rfl
      · simp (disch := omega) [eqf1, eqf2, Und, a0, ab, ann, hnl, ll, hnp, hneg, h1', h2', h3', h4', h5', -Bool.exists_bool, -getElem?_pos]
        refine ⟨k2 - 1, by omega, s + 1, by omega, by omega, fun q hq => ?_⟩
        by_cases e : q = s
        · subst e; omega
        · exact hge2 q (by omega)
    · obtain rfl : s = C.length := by omega
      simp (disch := omega) [eqf1, eqf2, Und, a0, ab, ann, hnl, ll, -Bool.exists_bool, -getElem?_pos]
      -- all that lacks is known
      have hin := inE_lows hok
      have hE := okE_edges hok
      have hBt : ∀ p, 0 ≤ Bt0 t C p ∧ Bt0 t C p ≤ 1296000 := fun p => by unfold Bt0; split <;> (try split) <;> omega
      have hsb : ∀ p, 0 ≤ sAt (edges C A) (lows A) p := fun p => (sAt_bd (edges C A) (lows A) p (fun j hj => by
        have hj' : j < (edges C A).length := by simp [lows] at hj; simpa [edges] using hj
        have h1 := hin.2 j hj'
        have h2 := hE.2 j hj'
        omega) hin.1).1
      have hL0 : ∀ p, p < 16 → 0 ≤ nth L p := fun p hp => by
        have h1 := hsum p hp
        by_cases e : p < t
        · exact hge p e
        · by_cases e2 : 8 ≤ p ∧ p < 8 + C.length
          · have := hge2 (p - 8) (by omega)
            rw [show 8 + (p - 8) = p by omega] at this; exact this
          · have hb : Bt0 t C p = 0 := by unfold Bt0; rw [if_neg (by omega), if_neg (by omega)]
            rw [at_none hok (lows A) hp hb, hb] at h1; omega
      have hfi : FI (edges C A) true (fun p => if p = 16 then sAt (edges C A) (lows A) 16 else Bt0 t C p) (lows A) L := by
        refine ⟨ll, fun p hp => ⟨hL0 p hp, ?_⟩, fun p hp => ?_, fun _ => rfl, h16, (fun h => by cases h)⟩
        · have := hsum p hp; have := hBt p; have := hsb p; omega
        · show nth L p + sAt (edges C A) (lows A) p = if p = 16 then _ else _
          rw [if_neg (by omega)]; exact hsum p hp
      have hz : ∀ q, t ≤ q → q < 8 → nth L q = 0 := fun q h1 h2 => by
        have hb : Bt0 t C q = 0 := by unfold Bt0; rw [if_neg (by omega), if_neg (by omega)]
        have := hsum q (by omega)
        rw [at_none hok (lows A) (by omega) hb, hb] at this; omega
      have hn1 : NetI t nC C aA (edges C A) n i (lows A) L τ := hn.stay (a0.trans t0.symm) (ag n ltn) (ag i lti)
      refine fill_call (ph := true) (bx := σ.next) hE (by omega) hn1 ab hfi hz fun h1 L1 R1 τ1 n1 f1 fl1 z1 o1 => ?_
      have b0 := n1.lim
      have bnx := o1.next
      have bb : τ1.get σ.next = _ := (o1.get _ lab (by simp; omega)).trans ab
      have b2 : τ1.get (σ.next + 1) = _ := (o1.get _ la2 (by simp; omega)).trans a2
      have bnn := n1.net
      have bll := n1.ll
      have lb2 := AH.get_lt b2
      simp (disch := omega) [eqf1, eqf2, Und, b0, bb, bnn, hnl, bll, -Bool.exists_bool, -getElem?_pos]
      refine lp_loop pl (fun k fr υ => ∃ s : Nat, k + s = C.length ∧ fr = ⟨[(1, .ptr (some (σ.next, 0))), (2, .ptr (some (σ.next + 1, 0))), (57, .int .i64 C.length), (58, .int .i64 s)], []⟩ ∧ υ = τ1 ∧ ∀ q, q < s → nth L1 (8 + q) ≤ 0)
        ⟨C.length, 0, by omega, rfl, rfl, fun s hs => by omega⟩ ?_
      rintro k3 _ υ ⟨s, hs3, rfl, hυ, hge3⟩
      rw [hυ]
      clear hυ υ
      by_cases hsC3 : s < C.length
      · have h1' : (s : Int) < C.length := by omega
        have h2' : 8 + (s : Int) < 17 := by omega
        have h3' : 0 ≤ 8 + (s : Int) := by omega
        have h4' : 4 + (8 + s) + 1 ≤ 4 + 17 := by omega
        have h5' : (8 + (s : Int)).toNat = 8 + s := by omega
        have hnp := netC_L (T := (t : Int)) (nC := nC) (C := C) (aA := aA) (i := i) (m := (edges C A).length) (L := L1) (k := 8 + s) (by omega)
        by_cases hpos : 0 < nth L1 (8 + s)
        · simp (disch := omega) [eqf1, eqf2, Und, b0, bb, bnn, hnl, bll, hnp, hpos, h1', h2', h3', h4', h5', -Bool.exists_bool, -getElem?_pos]
          refine proof_call hE (by omega) (by omega) n1 fun R F v1 v2 σ' hR qo qb1 qb2 => ?_
          obtain ⟨x1, x2, x3⟩ := buf_cel qb1
          obtain ⟨y1, y2, y3⟩ := buf_cel qb2
          have q0 := qo.lim.trans b0
          have qn := qo.next
          have q2 : σ'.get (σ.next + 1) = _ := (qo.get _ lb2 (by simp)).trans b2
          have lq2 := AH.get_lt q2
          simp (disch := omega) [eqf1, eqf2, Und, q0, q2, lq2, x1, x2, x3, y1, y2, y3, -Bool.exists_bool, -getElem?_pos]
          have keepS : ∀ {v : AV} {g : List Int}, Buf τ1.next 1 (AV.int .i64) σ' v g → SlI (σ'.set (σ.next + 1) (.cells [v1, v2, .bool false])) v g := fun hb => by
            rcases hb with h | ⟨j, h1, h2, h3, h4⟩
            · exact .inl h
            · exact .inr ⟨j, .op 1, h1, Nat.zero_le _, by rw [AH.get_set_other _ _ _ _ (by omega)]; exact h3, .inl rfl⟩
          have hfs : ∀ q, q < 16 → nth L1 q + sAt (edges C A) h1 q = Bt0 t C q := fun q hq => by
            have := f1.sum q hq
            rw [if_neg (by omega)] at this; exact this
          have hRsub := reached_sub hR (R0 := fun q => nth R1 q) (fun q hq hS => by
            rw [fromL_get _ _ hq] at hS
            simp at hS
            exact fl1.src q (by omega) hS.2) fl1.clo
          have hpf : okPf t C (pT R false t) (pS C R false C.length) := ⟨sel_rise _ _, sel_rise _ _, fun j hj => by
            obtain ⟨k, k1, k2, k3⟩ := sel_mem.1 (nth_mem hj)
            have k4 : nth (pS C R false C.length) j = k := k3
            rw [k4]
            simp at k2
            exact k2.1⟩
          have hte : Tells t C (notR fun q => nth R q) (pT R false t) (pS C R false C.length) := by
            refine ⟨fun x h0 h1 => ?_, fun x h0 h1 => ?_, by simp [notR]⟩
            · unfold pT notR
              rw [sel_has h0 h1]
              have : ¬ x.toNat = 16 := by omega
              show (nth R x.toNat == false) = (!nth R x.toNat && decide (x.toNat ≠ 16))
              cases nth R x.toNat <;> simp [this]
            · unfold pS notR
              rw [sel_has h0 h1]
              have : ¬ 8 + x.toNat = 16 := by omega
              show (nth C x.toNat && (nth R (8 + x.toNat) == false)) = (nth C x.toNat && (!nth R (8 + x.toNat) && decide (8 + x.toNat ≠ 16)))
              cases nth R (8 + x.toNat) <;> simp [this]
          have hop : ∀ j, j < (edges C A).length → (nth (edges C A) j).v = 16 → nth h1 j = (nth (edges C A) j).lo := fun j hj hv => by
            have e1 := open_low (edges C A) h1 (lows A) 16 n1.bd.1 hin.1 (fun j hj => by
              have e2 := (n1.bd.2 j hj).1
              rw [edges_len] at hj
              rw [lows_nth hj]
              rw [edges_nth C hj] at e2
              exact e2) (by have := f1.op rfl; rw [if_pos rfl] at this; exact this) j hj (.inr hv)
            rw [e1]
            rw [edges_len] at hj
            rw [lows_nth hj, edges_nth C hj]; rfl
          have hnR : notR (fun q => nth R q) (8 + s) = true := by
            have hg := fl1.no (8 + s) (by omega)
            have e3 : nth R (8 + s) = false := by
              cases h : nth R (8 + s) with
              | false => rfl
              | true =>
                have := hg (hRsub _ (by omega) h)
                unfold gL at this
                simp at this
                omega
            show (!nth R (8 + s) && decide (8 + s ≠ 16)) = true
            rw [e3]; simp; omega
          have hhold := big_holds hok n1.bd hfs hR.clo hop hpf hte (fun q hq => (f1.bd q hq).1) (fun q hq hq2 => by
            by_cases e : 0 < nth L1 q
            · have hqt : q < t := by
                by_cases e2 : q < t
                · exact e2
                · have := z1 q (by omega) hq; omega
              have := (hR.src q (by omega) (by rw [fromL_get _ _ (by omega)]; simp [hqt, e])).1
              have hq3 : (!nth R q && decide (q ≠ 16)) = true := hq2
              rw [this] at hq3; simp at hq3
            · have := (f1.bd q (by omega)).1; omega) (s := 8 + s) (by omega) (by omega) hpos hnR
          exact hk2 v1 v2 false _ ⟨fun x hx => by
            rcases hx with hx | hx
            · have := (qb1.obj_lt x hx).1; omega
            · have := (qb2.obj_lt x hx).1; omega, _, _, keepS qb1, keepS qb2, hpf, hhold⟩ ⟨q0.trans t0.symm, by show σ.next ≤ σ'.next; omega, fun q hq hs => by rw [AH.get_set_other _ _ _ _ (by omega), qo.get q (by omega) (by simp), o1.get q (by omega) hs]; exact ag q hq⟩
        · simp (disch := omega) [eqf1, eqf2, Und, b0, bb, bnn, hnl, bll, hnp, hpos, h1', h2', h3', h4', h5', -Bool.exists_bool, -getElem?_pos]
          refine ⟨k3 - 1, by omega, s + 1, by omega, by omega, fun q hq => ?_⟩
          by_cases e : q = s
          · subst e; omega
          · exact hge3 q (by omega)
      · obtain rfl : s = C.length := by omega
        simp (disch := omega) [eqf1, eqf2, Und, b0, bb, bnn, hnl, bll, -Bool.exists_bool, -getElem?_pos]
        have hfs : ∀ q, q < 16 → nth L1 q + sAt (edges C A) h1 q = Bt0 t C q := fun q hq => by
          have := f1.sum q hq
          rw [if_neg (by omega)] at this; exact this
        have hst : ∀ p, 8 ≤ p → p < 16 → nth L1 p = 0 := fun p hp1 hp2 => by
          by_cases e : p < 8 + C.length
          · have := hge3 (p - 8) (by omega)
            rw [show 8 + (p - 8) = p by omega] at this
            have := (f1.bd p hp2).1; omega
          · have hb : Bt0 t C p = 0 := by unfold Bt0; rw [if_neg (by omega), if_neg (by omega)]
            have := hfs p hp2
            rw [at_none hok h1 hp2 hb, hb] at this; omega
        have f2 : FI (edges C A) false (Bt0 t C) h1 L1 := ⟨f1.ll, f1.bd, hfs, (fun h => by cases h), f1.l16, fun _ => hst⟩
        refine fill_call (ph := false) (bx := σ.next) hE (by omega) n1 bb f2 z1 fun h2 L2 R2 τ2 n2 f3 fl2 z2 o2 => ?_
        have d0 := n2.lim
        have dnx := o2.next
        have db : τ2.get σ.next = _ := (o2.get _ (AH.get_lt bb) (by simp; omega)).trans bb
        have d2 : τ2.get (σ.next + 1) = _ := (o2.get _ lb2 (by simp; omega)).trans b2
        have dnn := n2.net
        have dll := n2.ll
        have ld2 := AH.get_lt d2
        simp (disch := omega) [eqf1, eqf2, Und, d0, db, dnn, hnl, dll, -Bool.exists_bool, -getElem?_pos]
        refine lp_loop pl (fun k fr υ => ∃ s : Nat, k + s = t ∧ fr = ⟨[(1, .ptr (some (σ.next, 0))), (2, .ptr (some (σ.next + 1, 0))), (78, .int .i64 t), (79, .int .i64 s)], []⟩ ∧ υ = τ2 ∧ ∀ q, q < s → nth L2 q ≤ 0)
          ⟨t, 0, by omega, rfl, rfl, fun s hs => by omega⟩ ?_
        rintro k4 _ υ ⟨s, hs4, rfl, hυ, hge4⟩
        rw [hυ]
        clear hυ υ
        by_cases hst4 : s < t
        · have h1' : (s : Int) < t := by omega
          have h2' : (s : Int) < 17 := by omega
          have h4' : 4 + s + 1 ≤ 4 + 17 := by omega
          have hnp := netC_L (T := (t : Int)) (nC := nC) (C := C) (aA := aA) (i := i) (m := (edges C A).length) (L := L2) (k := s) (by omega)
          by_cases hpos : 0 < nth L2 s
          · simp (disch := omega) [eqf1, eqf2, Und, d0, db, dnn, hnl, dll, hnp, hpos, h1', h2', h4', -Bool.exists_bool, -getElem?_pos]
            refine proof_call hE (by omega) (by omega) n2 fun R F v1 v2 σ' hR qo qb1 qb2 => ?_
            obtain ⟨x1, x2, x3⟩ := buf_cel qb1
            obtain ⟨y1, y2, y3⟩ := buf_cel qb2
            have q0 := qo.lim.trans d0
            have qn := qo.next
            have q2 : σ'.get (σ.next + 1) = _ := (qo.get _ ld2 (by simp)).trans d2
            have lq2 := AH.get_lt q2
            simp (disch := omega) [eqf1, eqf2, Und, q0, q2, lq2, x1, x2, x3, y1, y2, y3, -Bool.exists_bool, -getElem?_pos]
            have keepS : ∀ {v : AV} {g : List Int}, Buf τ2.next 1 (AV.int .i64) σ' v g → SlI (σ'.set (σ.next + 1) (.cells [v1, v2, .bool true])) v g := fun hb => by
              rcases hb with h | ⟨j, h1, h2, h3, h4⟩
              · exact .inl h
              · exact .inr ⟨j, .op 1, h1, Nat.zero_le _, by rw [AH.get_set_other _ _ _ _ (by omega)]; exact h3, .inl rfl⟩
            have hRsub := reached_sub hR (R0 := fun q => nth R2 q) (fun q hq hS => by
              rw [fromL_get _ _ hq] at hS
              simp at hS
              exact fl2.src q (by omega) hS.2) fl2.clo
            have h16R : nth R 16 = false := by
              cases h : nth R 16 with
              | false => rfl
              | true =>
                have := fl2.no 16 (by omega) (hRsub _ (by omega) h)
                unfold gL at this
                simp at this
            have hpf : okPf t C (pT R true t) (pS C R true C.length) := ⟨sel_rise _ _, sel_rise _ _, fun j hj => by
              obtain ⟨k, k1, k2, k3⟩ := sel_mem.1 (nth_mem hj)
              have k4 : nth (pS C R true C.length) j = k := k3
              rw [k4]
              simp at k2
              exact k2.1⟩
            have hte : Tells t C (fun q => nth R q) (pT R true t) (pS C R true C.length) := by
              refine ⟨fun x h0 h1 => ?_, fun x h0 h1 => ?_, h16R⟩
              · unfold pT
                rw [sel_has h0 h1]; simp
              · unfold pS
                rw [sel_has h0 h1]; simp
            have hRs : nth R s = true := (hR.src s (by omega) (by rw [fromL_get _ _ (by omega)]; simp [hst4, hpos])).1
            have hhold := small_holds hok n2.bd f3.sum hR.clo hpf hte (fun q hq => (f3.bd q hq).1) (f3.st rfl) (show s < 8 by omega) hpos hRs
            exact hk2 v1 v2 true _ ⟨fun x hx => by
              rcases hx with hx | hx
              · have := (qb1.obj_lt x hx).1; omega
              · have := (qb2.obj_lt x hx).1; omega, _, _, keepS qb1, keepS qb2, hpf, hhold⟩ ⟨q0.trans t0.symm, by show σ.next ≤ σ'.next; omega, fun q hq hs => by rw [AH.get_set_other _ _ _ _ (by omega), qo.get q (by omega) (by simp), o2.get q (by omega) hs, o1.get q (by omega) hs]; exact ag q hq⟩
          · simp (disch := omega) [eqf1, eqf2, Und, d0, db, dnn, hnl, dll, hnp, hpos, h1', h2', h4', -Bool.exists_bool, -getElem?_pos]
            refine ⟨k4 - 1, by omega, s + 1, by omega, by omega, fun q hq => ?_⟩
            by_cases e : q = s
            · subst e; omega
            · exact hge4 q (by omega)
        · obtain rfl : s = t := by omega
          simp (disch := omega) [eqf1, eqf2, Und, d0, d2, ld2, -Bool.exists_bool, -getElem?_pos]
          have hz0 : ∀ p, p < 16 → nth L2 p = 0 := fun p hp => by
            have hnn := (f3.bd p hp).1
            by_cases e : p < s
            · have := hge4 p e; omega
            · by_cases e2 : p < 8
              · exact z2 p (by omega) e2
              · exact f3.st rfl p (by omega) hp
          refine hk1 h2 L2 _ (n2.stay rfl (AH.get_set_other _ _ _ _ (by omega)) (AH.get_set_other _ _ _ _ (by omega))) ⟨n2.bd, fun p hp => ?_⟩ ⟨d0.trans t0.symm, by show σ.next ≤ τ2.next; omega, fun q hq hs => by rw [AH.get_set_other _ _ _ _ (by omega), o2.get q (by omega) hs, o1.get q (by omega) hs]; exact ag q hq⟩
          have := f3.sum p hp
          rw [hz0 p hp] at this; omega
end
end Go.Oct.Tri
