/- FixTracks: it answers true at all arguments. -/
import Derived.Test.YtddclpecmjibkaaDoorOFixGoeL
import Derived.Test.YtddclpecmjibkaaDoorOFixTrkW
set_option maxRecDepth 100000
set_option maxHeartbeats 8000000
set_option linter.unusedVariables false
set_option linter.unusedSimpArgs false
namespace Go.Oct.Fix
open Go.Oct
theorem ptsL_iff {f : Nat → Bool} {q : Span} : q ∈ ptsL f ↔ inSea q ∧ f (ix q) = true := by
  rw [ptsL_mem]
  constructor
  · rintro ⟨n, h1, h2, rfl⟩
    exact ⟨pt_sea h1, by rw [ix_pt]; exact h2⟩
  · rintro ⟨h1, h2⟩
    exact ⟨ix q, ix_lt h1, h2, (pt_ix h1).symm⟩
theorem rEnds_ok (E N : Span) (nS : Bool) (S : List Stp) (q : Span) (hz : szLog S) : ans prog O 28 [eLog E N nS S, .agg [.int .i64 q.lo, .int .i64 q.hi]] = some (.int .i64 (open Classical in if okLog E N S then (if inSea q ∧ canR E N S (ix q) = true then 0 else 4) else 80)) := by
  have hwh := rWhere_ok E N nS S hz
  refine fn_of' pl get28 (oo (by decide)) rfl rfl ?_
  unfold whereV at hwh
  unfold eLog at hwh
  by_cases hok : okLog E N S
  · rw [if_pos hok] at hwh ⊢
    by_cases he : ptsL (canR E N S) = []
    · have hno : ¬ (inSea q ∧ canR E N S (ix q) = true) := fun h => by
        have := ptsL_iff.2 h
        rw [he] at this; cases this
      rw [if_pos he] at hwh
      rw [if_neg hno]
      simp (disch := omega) [eLog, hwh, Und, -Bool.exists_bool]
    · rw [if_neg he] at hwh
      obtain ⟨w, hw⟩ : ∃ w, w = ptsL (canR E N S) := ⟨_, rfl⟩
      have hwl : w.length ≤ 3600 := by rw [hw]; exact ptsTo_len _ _
      have hiff : q ∈ w ↔ inSea q ∧ canR E N S (ix q) = true := by rw [hw]; exact ptsL_iff
      rw [← hw] at hwh
      clear hw he
      simp (disch := omega) [eLog, hwh, Und, -Bool.exists_bool]
      refine lp_loop pl (fun k fr σ => ∃ i : Nat, i + k = w.length ∧ fr = ⟨[(3, .ptr (some (1, 0))), (5, vl eSpan false w), (7, .int .i64 i)], []⟩ ∧ σ.lim = 0 ∧ σ.get 1 = some (.cells [.int .i64 q.lo, .int .i64 q.hi]) ∧ ∀ j, j < i → nth w j ≠ q)
        ⟨w.length, 0, by omega, rfl, by simp, by simp, fun j hj => by omega⟩ ?_
      rintro k _ σ ⟨i, hi, rfl, s0, sg, hno⟩
      have l1 := AH.get_lt sg
      by_cases hiw : i < w.length
      · have hiw' : (i : Int) < w.length := by omega
        by_cases e : nth w i = q
        · have hq : inSea q ∧ canR E N S (ix q) = true := hiff.1 (by rw [← e]; exact nth_mem hiw)
          rw [if_pos hq]
          have e1 : (nth w i).lo = q.lo := by rw [e]
          have e2 : (nth w i).hi = q.hi := by rw [e]
          simp (disch := omega) [Und, eqf1, eqf2, s0, sg, l1, hiw, hiw', e1, e2, ltT, -Bool.exists_bool, -getElem?_pos]
        · have e1 : ¬ ((nth w i).lo = q.lo ∧ (nth w i).hi = q.hi) := fun h => e (by
            cases hx : nth w i with
            | mk a b => rw [hx] at h; cases q; simp at h; rw [h.1, h.2])
          simp (disch := omega) [Und, eqf1, eqf2, s0, sg, l1, hiw, hiw', e1, ltT, -Bool.exists_bool, -getElem?_pos]
          exact fun _ => ⟨k - 1, by omega, i + 1, by omega, by omega, fun j hj => by
            by_cases e2 : j = i
            · rw [e2]; exact e
            · exact hno j (by omega)⟩
      · obtain rfl : i = w.length := by omega
        have hq : ¬ (inSea q ∧ canR E N S (ix q) = true) := fun h => by
          obtain ⟨j, hj, e⟩ := mem_nth.1 (hiff.2 h)
          exact hno j hj e
        rw [if_neg hq]
        simp (disch := omega) [Und, s0, -Bool.exists_bool]
  · rw [if_neg hok] at hwh ⊢
    simp (disch := omega) [eLog, hwh, Und, -Bool.exists_bool]
theorem FixTracks_law (E N : Span) (nS : Bool) (S : List Stp) (q : Span) (hz : szLog S) : ans prog O 4 [eLog E N nS S, .agg [.int .i64 q.lo, .int .i64 q.hi]] = some (.bool true) := by
  have htr := Track_ok E N nS S q hz
  have hen := rEnds_ok E N nS S q hz
  refine fn_of' pl get4 (oo (by decide)) rfl rfl ?_
  unfold trackV at htr
  by_cases hok : okLog E N S
  · rw [if_pos hok] at htr hen
    by_cases hq : inSea q ∧ canR E N S (ix q) = true
    · rw [if_pos hq] at htr hen
      have hRle := rnT_le S S.length
      rw [rnT_all] at hRle
      have h12 := hok.2.2.1
      obtain ⟨t1, t2⟩ := trk_true (E := E) (N := N) (R := rns S) (G := sgs S S.length) (rns S).length (ix q) (ix_lt hq.1) hq.2
      have t3 := trk_len (E := E) (N := N) (R := rns S) (G := sgs S S.length) (rns S).length (ix q)
      generalize trk E N (rns S) (sgs S S.length) (rns S).length (ix q) = t at htr t1 t2 t3
      rw [pt_ix hq.1] at t2
      have hrt := rTrue_ok E N nS S false t hz (by omega)
      unfold trueV at hrt
      have hT : TrueT E N S t := t1
      rw [if_pos hok, decide_eq_true hT] at hrt
      have i1 : (t.length : Int) - 1 = ((rns S).length : Int) := by omega
      have i2 : (rns S).length < t.length := by omega
      have i3 : ((rns S).length : Int) < t.length := by omega
      have e1 : (nth t (rns S).length).lo = q.lo := by rw [t2]
      have e2 : (nth t (rns S).length).hi = q.hi := by rw [t2]
      unfold eLog at htr hen hrt
      simp (disch := omega) [eLog, htr, hen, hrt, i1, i2, i3, e1, e2, Und, eqf1, eqf2, -Bool.exists_bool, -getElem?_pos]
    · rw [if_neg hq] at htr hen
      unfold eLog at htr hen
      simp (disch := omega) [eLog, htr, hen, Und, -Bool.exists_bool]
  · rw [if_neg hok] at htr hen
    unfold eLog at htr hen
    simp (disch := omega) [eLog, htr, hen, Und, -Bool.exists_bool]
theorem FixTracks_ok (E N : Span) (nS : Bool) (S : List Stp) (q : Span) (hs : Slice eStp stpOK (vl eStp nS S) nS S) (hE : i64 E.lo ∧ i64 E.hi) (hN : i64 N.lo ∧ i64 N.hi) (hq : i64 q.lo ∧ i64 q.hi) : ans prog O 4 [eLog E N nS S, .agg [.int .i64 q.lo, .int .i64 q.hi]] = some (.bool true) :=
  FixTracks_law E N nS S q (szLog_of hs)
end Go.Oct.Fix
