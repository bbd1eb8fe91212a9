/- Logs: true tracks, as the program tells them. -/
import Derived.Test.YtddclpecmjibkaaDoorOFixBckW
set_option maxRecDepth 100000
set_option maxHeartbeats 8000000
set_option linter.unusedVariables false
set_option linter.unusedSimpArgs false
namespace Go.Oct.Fix
open Go.Oct
/-- A true track of a log. -/
abbrev TrueT (E N : Span) (S : List Stp) (t : List Span) : Prop := TrT E N (rns S) (sgs S S.length) (rns S).length t
open Classical in
noncomputable instance (E N : Span) (S : List Stp) (t : List Span) : Decidable (TrueT E N S t) := Classical.propDecidable _
/-- One place of a track. -/
def plOK (S : List Stp) (t : List Span) (i : Nat) : Prop := inSea (nth t i) ∧ allH (nth (sgs S S.length) i) (nth t i).lo (nth t i).hi = true ∧ (0 < i → goI (nth (rns S) (i - 1)) (nth t (i - 1)).lo (nth t (i - 1)).hi (nth t i).lo (nth t i).hi = true)
theorem true_of {E N : Span} {S : List Stp} {t : List Span} (hl : t.length = (rns S).length + 1) (he : inI E.lo E.hi (nth t 0).lo = true) (hn : inI N.lo N.hi (nth t 0).hi = true) (h : ∀ i, i < t.length → plOK S t i) : TrueT E N S t :=
  ⟨hl, he, hn, fun i hi => (h i (by omega)).1, fun i hi => (h i (by omega)).2.1, fun i hi => by
    have := (h (i + 1) (by omega)).2.2 (by omega)
    rwa [Nat.add_sub_cancel] at this⟩
theorem of_true {E N : Span} {S : List Stp} {t : List Span} (h : TrueT E N S t) {i : Nat} (hi : i < t.length) : plOK S t i := by
  have hl := h.len
  refine ⟨h.sea i (by omega), h.hold i (by omega), fun h0 => ?_⟩
  have := h.goes (i - 1) (by omega)
  rwa [Nat.sub_add_cancel h0] at this
noncomputable def trueV (E N : Span) (S : List Stp) (t : List Span) : AV := if okLog E N S then .tuple [.bool (decide (TrueT E N S t)), .int .i64 0] else .tuple [.bool false, .int .i64 80]
theorem True_ok (E N : Span) (nS : Bool) (S : List Stp) (nt : Bool) (t : List Span) (hz : szLog S) (ht : t.length < 2 ^ 62) : ans prog O 17 [eLog E N nS S, vl eSpan nt t] = some (trueV E N S t) := by
  have hck := Check_ok E N nS S hz
  refine fn_of' pl get17 (oo (by decide)) rfl rfl ?_
  by_cases hok : okLog E N S
  · have hrn := runs_ok E N nS S hok.2.2.1
    have h12 := hok.2.2.1
    have hRle := rnT_le S S.length
    have hgl := sgs_len (S := S) S.length (Nat.le_refl _)
    rw [rnT_all] at hRle hgl
    have hprt := okLog_part hz hok
    rw [if_pos hok] at hck
    unfold trueV
    rw [if_pos hok]
    unfold eLog at hck hrn
    have i1 := inside_ok E.lo E.hi (nth t 0).lo
    have i2 := inside_ok N.lo N.hi (nth t 0).hi
    by_cases hl : t.length = (rns S).length + 1
    · have hl' : (t.length : Int) = ((rns S).length : Int) + 1 := by omega
      have h0 : (0 : Int) < t.length := by omega
      have h0' : 0 < t.length := by omega
      cases he : inI E.lo E.hi (nth t 0).lo
      · have hno : ¬ TrueT E N S t := fun h => by have := h.e0; rw [he] at this; cases this
        rw [he] at i1
        simp (disch := omega) [eLog, hck, hrn, hl', h0, h0', i1, hno, Und, -Bool.exists_bool]
      · rw [he] at i1
        cases hn : inI N.lo N.hi (nth t 0).hi
        · have hno : ¬ TrueT E N S t := fun h => by have := h.n0; rw [hn] at this; cases this
          rw [hn] at i2
          simp (disch := omega) [eLog, hck, hrn, hl', h0, h0', i1, i2, hno, Und, -Bool.exists_bool]
        · rw [hn] at i2
          simp (disch := omega) [eLog, hck, hrn, eq_true hl', h0, h0', i1, i2, Und, -Bool.exists_bool]
          refine lp_loop pl (fun k fr σ => ∃ i : Nat, i + k = t.length ∧ fr = ⟨[(1, vl eSpan nt t), (7, .ptr (some (1, 0))), (58, vl eSpan nt t), (59, .int .i64 t.length), (60, .int .i64 i)], []⟩ ∧ σ.lim = 0 ∧ 2 ≤ σ.next ∧ σ.get 1 = some (.cells (logC E N nS S (.vsl true []))) ∧ ∀ j, j < i → plOK S t j)
            ⟨t.length, 0, by omega, rfl, by simp, by simp, by simp; rfl, fun j hj => by omega⟩ ?_
          rintro k _ σ ⟨i, hi, rfl, s0, sn, sg, hpl⟩
          have l1 := AH.get_lt sg
          have q1 : ¬ 1 = σ.next := by omega
          by_cases hit : i < t.length
          · have hit' : (i : Int) < t.length := by omega
            by_cases c1 : 0 ≤ (nth t i).lo ∧ (nth t i).lo ≤ 59
            · by_cases c2 : 0 ≤ (nth t i).hi ∧ (nth t i).hi ≤ 59
              · simp (disch := omega) [Und, eqf1, eqf2, s0, sg, l1, q1, hit', eq_true c1, eq_true c2, ltT, -Bool.exists_bool]
                generalize hτ : AH.set (σ.push _) σ.next _ = τ
                have t0 : τ.lim = 0 := by rw [← hτ]; exact s0
                have tn : τ.next = σ.next + 1 := by rw [← hτ]; rfl
                have tg : ∀ z, z < σ.next → τ.get z = σ.get z := fun z hz => by rw [← hτ, AH.get_set_other _ _ _ _ (by omega), AH.get_push_old _ _ _ (by omega)]
                have ts : τ.get σ.next = some (.cells [.int .i64 (nth t i).lo, .int .i64 (nth t i).hi]) := by rw [← hτ, AH.get_set_same _ _ _ (Nat.lt_succ_self _)]
                clear hτ
                have t1 := (tg 1 l1).trans sg
                have hGi : i < (sgs S S.length).length := by omega
                refine fits_call (nl := false) (G := sgs S S.length) (i := i) t1 logC_len logC_6 hGi (hprt _ hGi) (by have := sgs_sum S S.length (Nat.le_refl _) _ hGi; omega) (by omega) c1 c2 fun τ' ho => ?_
                have v0 := ho.lim.trans t0
                have vn := ho.next
                have vg : ∀ z, z < τ.next → τ'.get z = τ.get z := fun z hz => ho.get z hz (by simp)
                have v1 := (vg 1 (by omega)).trans t1
                have vs := (vg σ.next (by omega)).trans ts
                have lv1 := AH.get_lt v1
                have lvs := AH.get_lt vs
                cases c3 : allH (nth (sgs S S.length) i) (nth t i).lo (nth t i).hi
                · have hno : ¬ TrueT E N S t := fun h => by have := (of_true h hit).2.1; rw [c3] at this; cases this
                  simp (disch := omega) [Und, eqf1, eqf2, v0, v1, vs, lv1, lvs, hno, ltT, -Bool.exists_bool, -getElem?_pos]
                · by_cases hi0 : i = 0
                  · subst hi0
                    simp (disch := omega) [Und, eqf1, eqf2, v0, v1, vs, lv1, lvs, ltT, -Bool.exists_bool, -getElem?_pos]
                    exact ⟨k - 1, by omega, 1, by omega, by omega, by omega, fun j hj => by
                      obtain rfl : j = 0 := by omega
                      exact ⟨⟨c1, c2⟩, c3, fun h => by omega⟩⟩
                  · obtain ⟨i', rfl⟩ : ∃ i', i = i' + 1 := ⟨i - 1, by omega⟩
                    have hp := (hpl i' (by omega)).1
                    obtain ⟨⟨p1, p2⟩, p3, p4⟩ := hp
                    have hgo := goes_ok (nth (rns S) i') (nth t i').lo (nth t i').hi (nth t (i' + 1)).lo (nth t (i' + 1)).hi (by omega) (by omega)
                    unfold eStp at hgo
                    have j1 : ((i' + 1 : Nat) : Int) - 1 = (i' : Int) := by omega
                    have j2 : (i' : Int) < (rns S).length := by omega
                    have j3 : i' < (rns S).length := by omega
                    have j4 : (i' : Int) < t.length := by omega
                    have j5 : i' < t.length := by omega
                    have j6 : (0 : Int) < ((i' + 1 : Nat) : Int) := by omega
                    have j7 : (0 : Int) < (i' : Int) + 1 := by omega
                    cases c4 : goI (nth (rns S) i') (nth t i').lo (nth t i').hi (nth t (i' + 1)).lo (nth t (i' + 1)).hi
                    · have hno : ¬ TrueT E N S t := fun h => by
                        have := (of_true h hit).2.2 (by omega)
                        rw [Nat.add_sub_cancel, c4] at this; cases this
                      rw [c4] at hgo
                      simp (disch := omega) [Und, eqf1, eqf2, v0, v1, vs, lv1, lvs, hno, j1, j2, j3, j4, j5, j6, j7, hgo, ltT, -Bool.exists_bool, -getElem?_pos]
                    · rw [c4] at hgo
                      simp (disch := omega) [Und, eqf1, eqf2, v0, v1, vs, lv1, lvs, j1, j2, j3, j4, j5, j6, j7, hgo, ltT, -Bool.exists_bool, -getElem?_pos]
                      refine ⟨k - 1, by omega, i' + 2, by omega, by omega, by omega, fun j hj => ?_⟩
                      by_cases e : j = i' + 1
                      · rw [e]; exact ⟨⟨c1, c2⟩, c3, fun _ => by rw [Nat.add_sub_cancel]; exact c4⟩
                      · exact hpl j (by omega)
              · have hno : ¬ TrueT E N S t := fun h => c2 (of_true h hit).1.2
                simp (disch := omega) [Und, eqf1, eqf2, s0, sg, l1, q1, hit', eq_true c1, eq_false c2, hno, ltT, -Bool.exists_bool]
            · have hno : ¬ TrueT E N S t := fun h => c1 (of_true h hit).1.1
              simp (disch := omega) [Und, eqf1, eqf2, s0, sg, l1, q1, hit', eq_false c1, hno, ltT, -Bool.exists_bool]
          · obtain rfl : i = t.length := by omega
            have hyes : TrueT E N S t := true_of hl he hn hpl
            simp (disch := omega) [Und, s0, hyes, -Bool.exists_bool]
    · have hl' : ¬ (t.length : Int) = ((rns S).length : Int) + 1 := by omega
      have hno : ¬ TrueT E N S t := fun h => hl h.len
      simp (disch := omega) [eLog, hck, hrn, hl', hno, Und, -Bool.exists_bool]
  · rw [if_neg hok] at hck
    unfold trueV
    rw [if_neg hok]
    unfold eLog at hck
    simp (disch := omega) [eLog, hck, Und, -Bool.exists_bool]
end Go.Oct.Fix
