/- FixShip: it answers true at all arguments. -/
import Derived.Test.YtddclpecmjibkaaDoorOFixShpW
import Derived.Test.YtddclpecmjibkaaDoorOFixThgP
set_option maxRecDepth 100000
set_option maxHeartbeats 8000000
set_option linter.unusedVariables false
set_option linter.unusedSimpArgs false
namespace Go.Oct.Fix
open Go.Oct
theorem Before2_ok (na nb : Bool) (a b c d : Int) (h : a < c ∨ a = c ∧ b < d) : ans prog O 38 [vs na [a, b], vs nb [c, d]] = some (.bool true) := by
  refine fn_of' pl get38 (oo (by decide)) rfl rfl ?_
  simp (disch := omega) [-Bool.exists_bool]
  refine lp_loop pl (fun k fr σ => ∃ j : Nat, j + k = 1 ∧ (j = 1 → a = c) ∧ fr = ⟨[(0, vs na [a, b]), (1, vs nb [c, d]), (5, .int .i64 j)], []⟩ ∧ σ = ⟨0, 0, .leaf⟩) ⟨1, 0, by omega, fun h => by omega, rfl, rfl⟩ ?_
  rintro k _ _ ⟨j, hj, hac, rfl, rfl⟩
  rcases (show j = 0 ∨ j = 1 by omega) with rfl | rfl
  · by_cases h1 : a < c
    · simp (disch := omega) [Und, h1, -Bool.exists_bool]
    · obtain ⟨h2, h3⟩ : a = c ∧ b < d := h.resolve_left h1
      subst h2
      simp (disch := omega) [Und, -Bool.exists_bool]
      exact ⟨0, by omega, 1, by omega⟩
  · have h2 := hac rfl
    subst h2
    have h3 : b < d := by omega
    simp (disch := omega) [Und, h3, -Bool.exists_bool]
/-- The points of a list rise. -/
theorem ptsTo_rise (f : Nat → Bool) : ∀ n, ∀ i, i + 1 < (ptsTo f n).length → ∃ m k, nth (ptsTo f n) i = pt m ∧ nth (ptsTo f n) (i + 1) = pt k ∧ m < k ∧ k < n
  | 0, i, h => by simp [ptsTo] at h
  | n + 1, i, h => by
    have hs := ptsTo_succ f n
    by_cases e : f n = true
    · rw [if_pos e] at hs
      rw [hs, List.length_append, List.length_singleton] at h
      rw [hs]
      by_cases e2 : i + 1 < (ptsTo f n).length
      · obtain ⟨m, k, h1, h2, h3, h4⟩ := ptsTo_rise f n i e2
        rw [nth_app_lo (by omega), nth_app_lo e2]
        exact ⟨m, k, h1, h2, h3, by omega⟩
      · have hi : i + 1 = (ptsTo f n).length := by omega
        rw [nth_app_lo (by omega), hi, nth_app_hi]
        have hm : nth (ptsTo f n) i ∈ ptsTo f n := nth_mem (by omega)
        unfold ptsTo at hm
        obtain ⟨m, h1, h2⟩ := List.mem_map.1 hm
        have h3 := List.mem_range.1 (List.mem_filter.1 h1).1
        exact ⟨m, n, h2.symm, rfl, h3, by omega⟩
    · rw [if_neg e, List.append_nil] at hs
      rw [hs] at h ⊢
      obtain ⟨m, k, h1, h2, h3, h4⟩ := ptsTo_rise f n i h
      exact ⟨m, k, h1, h2, h3, by omega⟩
theorem pts_before {f : Nat → Bool} {i : Nat} (h : i + 1 < (ptsL f).length) : (nth (ptsL f) i).lo < (nth (ptsL f) (i + 1)).lo ∨ (nth (ptsL f) i).lo = (nth (ptsL f) (i + 1)).lo ∧ (nth (ptsL f) i).hi < (nth (ptsL f) (i + 1)).hi := by
  obtain ⟨m, k, h1, h2, h3, h4⟩ := ptsTo_rise f 3600 i h
  rw [show nth (ptsL f) i = pt m from h1, show nth (ptsL f) (i + 1) = pt k from h2]
  simp only [pt_lo, pt_hi]
  omega
theorem FixShip_law (E N : Span) (nS : Bool) (S : List Stp) (nt : Bool) (t : List Span) (n : Int) (hz : szLog S) (ht : t.length < 2 ^ 62) : ans prog O 8 [eLog E N nS S, vl eSpan nt t, .int .i64 n] = some (.bool true) := by
  have hwh := Where_ok E N nS S hz
  have htr := True_ok E N nS S nt t hz ht
  unfold whereV at hwh
  unfold trueV at htr
  unfold eLog at hwh htr
  refine fn_of' pl get8 (oo (by decide)) rfl rfl ?_
  by_cases hok : okLog E N S
  · rw [if_pos hok] at hwh htr
    have h12 := hok.2.2.1
    have hRle := rnT_le S S.length
    rw [rnT_all] at hRle
    by_cases hne : ptsL (canR E N S) = []
    · rw [if_pos hne] at hwh
      have hno : ¬ TrueT E N S t := fun h => can_true.2 ⟨t, h⟩ hne
      rw [decide_eq_false hno] at htr
      simp (disch := omega) [eLog, hwh, htr, Und, -Bool.exists_bool]
    · rw [if_neg hne] at hwh
      have hsa := sailed_ok E N nS S nt t hz ht hok
      unfold eLog at hsa
      obtain ⟨w, hw⟩ : ∃ w, w = ptsL (canR E N S) := ⟨_, rfl⟩
      have hwl : w.length ≤ 3600 := by rw [hw]; exact ptsTo_len _ _
      have hws : ∀ q ∈ w, inSea q ∧ canR E N S (ix q) = true := fun q hq => by
        rw [hw] at hq
        obtain ⟨m, h1, h2, h3⟩ := ptsL_mem.1 hq
        rw [h3]; exact ⟨pt_sea h1, by rw [ix_pt]; exact h2⟩
      have hwb : ∀ i, i + 1 < w.length → (nth w i).lo < (nth w (i + 1)).lo ∨ (nth w i).lo = (nth w (i + 1)).lo ∧ (nth w i).hi < (nth w (i + 1)).hi := fun i hi => by
        rw [hw] at hi ⊢; exact pts_before hi
      have hwne : w ≠ [] := by rw [hw]; exact hne
      have hw0 : 0 < w.length := List.length_pos_iff.2 hwne
      rw [← hw] at hwh
      obtain ⟨b, hb⟩ : ∃ b, b = decide (TrueT E N S t) := ⟨_, rfl⟩
      rw [← hb] at htr hsa
      have q3 : ¬ (w.length : Int) = 0 := by omega
      simp (disch := omega) [eLog, hwh, htr, hsa, hwne, q3, Und, -Bool.exists_bool]
      refine lp_loop pl (fun k fr σ => ∃ i : Nat, i + k = w.length ∧ fr = ⟨[(1, vl eSpan nt t), (2, .int .i64 n), (3, .ptr (some (0, 0))), (7, vl eSpan false w), (9, .bool b), (11, .int .i64 i)], []⟩ ∧ σ.lim = 0 ∧ 1 ≤ σ.next ∧ σ.get 0 = some (.cells [.int .i64 E.lo, .int .i64 E.hi, .int .i64 N.lo, .int .i64 N.hi, vl eStp nS S]))
        ⟨w.length, 0, by omega, rfl, by simp, by simp, by simp⟩ ?_
      rintro k _ σ ⟨i, hi, rfl, s0, sn, sg⟩
      have l0 := AH.get_lt sg
      have n0' : ¬ 0 = σ.next := by omega
      have n1' : ¬ 0 = σ.next + 1 := by omega
      have n2' : ¬ 0 = σ.next + 2 := by omega
      by_cases hiw : i < w.length
      · have hiw' : (i : Int) < w.length := by omega
        obtain ⟨c1, c2⟩ := (hws _ (nth_mem hiw)).1
        by_cases hi0 : i = 0
        · subst hi0
          simp (disch := omega) [Und, eqf1, eqf2, s0, sg, l0, n0', n1', n2', hiw', hiw, hw0, eq_true c1, eq_true c2, ltT, -Bool.exists_bool]
          exact ⟨k - 1, by omega, 1, by omega, by omega⟩
        · obtain ⟨i', rfl⟩ : ∃ i', i = i' + 1 := ⟨i - 1, by omega⟩
          have h1 : i' < w.length := by omega
          have h2 : (i' : Int) < w.length := by omega
          have h3 : (i' : Int) + 1 < w.length := by omega
          have h4 : (0 : Int) < (i' : Int) + 1 := by omega
          have hbf := Before2_ok false false _ _ _ _ (hwb i' hiw)
          obtain ⟨x, hx⟩ : ∃ x, x = nth w (i' + 1) := ⟨_, rfl⟩
          obtain ⟨y, hy⟩ : ∃ y, y = nth w i' := ⟨_, rfl⟩
          rw [← hx] at c1 c2 hbf
          rw [← hy] at hbf
          simp (disch := omega) [Und, eqf1, eqf2, s0, sg, l0, n0', n1', n2', h1, h2, h3, h4, hiw, hiw', ← hx, ← hy, eq_true c1, eq_true c2, ltT, -Bool.exists_bool]
          refine ⟨by omega, ?_⟩
          generalize hU : AH.push (AH.push _ _) _ = U
          have u0 : U.lim = 0 := by rw [← hU]; rfl
          have un : U.next = σ.next + 3 := by rw [← hU]; rfl
          have ug : U.get 0 = some (.cells [.int .i64 E.lo, .int .i64 E.hi, .int .i64 N.lo, .int .i64 N.hi, vl eStp nS S]) := by rw [← hU]; simp (disch := omega) [eqf1, eqf2, n0', n1', n2', sg, l0, ltT]
          have u1 : U.get (σ.next + 1) = some (.cells (rowOf (AV.int .i64) [y.lo, y.hi])) := by rw [← hU]; simp (disch := omega) [eqf1, eqf2, ltT]; rfl
          have u2 : U.get (σ.next + 1 + 1) = some (.cells (rowOf (AV.int .i64) [x.lo, x.hi])) := by rw [← hU]; simp (disch := omega) [eqf1, eqf2, ltT]; rfl
          clear hU
          have w1 : Whole (σ.next + 1) 1 (AV.int .i64) U (.slice (some (σ.next + 1, 0)) 2 (.ex 2)) [y.lo, y.hi] := ⟨_, _, rfl, by omega, u1, .inr rfl⟩
          have w2 : Whole (σ.next + 1) 1 (AV.int .i64) U (.slice (some (σ.next + 1 + 1, 0)) 2 (.ex 2)) [x.lo, x.hi] := ⟨_, _, rfl, by omega, u2, .inr rfl⟩
          refine pc_ro (.cons (w1.view.snap encI flatI) (.cons (w2.view.snap encI flatI) .nil)) (fun h => by cases h) (by simp) (oo (args := []) (by decide)).1 (fun z hz => by rw [u0]; omega) hbf fun υ o2 ce2 => ?_
          have v0 := o2.lim.trans u0
          have vn := o2.next
          have vg : υ.get 0 = _ := (o2.get 0 (by omega) (by simp [obj])).trans ug
          simp (disch := omega) [Und, v0, vg, -Bool.exists_bool]
          exact ⟨k - 1, by omega, i' + 2, by omega, by omega, by omega⟩
      · obtain rfl : i = w.length := by omega
        simp (disch := omega) [Und, eqf1, eqf2, s0, sg, l0, -Bool.exists_bool]
        refine lp_loop pl (fun k fr σ => ∃ i : Nat, i + k = t.length ∧ fr = ⟨[(1, vl eSpan nt t), (2, .int .i64 n), (3, .ptr (some (0, 0))), (7, vl eSpan false w), (9, .bool b), (13, .int .i64 i)], []⟩ ∧ σ.lim = 0 ∧ 1 ≤ σ.next ∧ σ.get 0 = some (.cells [.int .i64 E.lo, .int .i64 E.hi, .int .i64 N.lo, .int .i64 N.hi, vl eStp nS S]))
          ⟨t.length, 0, by omega, rfl, s0, sn, sg⟩ ?_
        clear s0 sn sg l0 n0' n1' n2' hiw
        rintro k _ σ ⟨i, hi, rfl, s0, sn, sg⟩
        have l0 := AH.get_lt sg
        by_cases hit : b = true ∧ i < t.length
        · obtain ⟨hbt, hit⟩ := hit
          have hit' : (i : Int) < t.length := by omega
          have htt : TrueT E N S t := by rw [hbt] at hb; exact of_decide_eq_true hb.symm
          have hiR : i ≤ (rns S).length := by have := htt.len; omega
          have hwas := Was_ok E N nS S i hz
          rw [wasV_ok hok hiR hne] at hwas
          unfold eLog at hwas
          have hmem : (⟨(nth t i).lo, (nth t i).hi⟩ : Span) ∈ ptsL (wasF E N S ((rns S).length - i)) := (was_pt hiR (htt.sea i hiR)).2 ⟨t, htt, rfl⟩
          have ham := among_ok false (ptsL (wasF E N S ((rns S).length - i))) (nth t i).lo (nth t i).hi (by have := ptsTo_len (wasF E N S ((rns S).length - i)) 3600; unfold ptsL; omega)
          rw [decide_eq_true hmem] at ham
          subst hbt
          simp (disch := omega) [Und, eqf1, eqf2, s0, sg, l0, hit, hit', hwas, ham, -Bool.exists_bool]
          exact ⟨k - 1, by omega, i + 1, by omega, by omega, sn⟩
        · have hit' : b = true → ¬ (i : Int) < t.length := fun h1 h2 => hit ⟨h1, by omega⟩
          have q1 := Int.emod_nonneg n (show (w.length : Int) ≠ 0 by omega)
          have q2 := Int.emod_lt_of_pos n (show (0 : Int) < (w.length : Int) by omega)
          obtain ⟨q, hq⟩ : ∃ q, q = nth w (n % w.length).toNat := ⟨_, rfl⟩
          obtain ⟨hqs, hqc⟩ := hws q (by rw [hq]; exact nth_mem (by omega))
          have htk := Track_ok E N nS S q hz
          unfold trackV at htk
          rw [if_pos hok, if_pos ⟨hqs, hqc⟩] at htk
          obtain ⟨u, hu⟩ : ∃ u, u = trk E N (rns S) (sgs S S.length) (rns S).length (ix q) := ⟨_, rfl⟩
          obtain ⟨tr1, tr2⟩ := trk_true (rns S).length (ix q) (ix_lt hqs) hqc
          rw [← hu] at tr1 tr2 htk
          have hul := tr1.len
          have hsu := sailed_ok E N nS S false u hz (by omega) hok
          rw [decide_eq_true (show TrueT E N S u from tr1)] at hsu
          have hlast : nth u (rns S).length = q := by rw [tr2, pt_ix hqs]
          unfold eLog at htk hsu
          have hlq : nth u (u.length - 1) = nth u (rns S).length := by rw [hul, Nat.add_sub_cancel]
          cases b with
          | false =>
            simp (disch := omega) [Und, eqf1, eqf2, s0, sg, l0, q1, q2, ← hq, htk, hsu, -Bool.exists_bool]
            refine ⟨fun _ => by omega, by omega, ?_, ?_⟩
            · rw [hlq]; exact congrArg Span.lo hlast
            · rw [hlq]; exact congrArg Span.hi hlast
          | true =>
            have hit2 := hit' rfl
            have htt : TrueT E N S t := of_decide_eq_true hb.symm
            have htl := htt.len
            have htl0 : (t.length : Int) - 1 < t.length := by omega
            have hts := htt.sea (rns S).length (Nat.le_refl _)
            have hmem : (⟨(nth t (t.length - 1)).lo, (nth t (t.length - 1)).hi⟩ : Span) ∈ w := by
              rw [show t.length - 1 = (rns S).length by omega, hw]
              exact ptsL_mem.2 ⟨ix (nth t (rns S).length), ix_lt hts, can_of htt _ (Nat.le_refl _), (pt_ix hts).symm⟩
            have ham := among_ok false w (nth t (t.length - 1)).lo (nth t (t.length - 1)).hi (by omega)
            rw [decide_eq_true hmem] at ham
            simp (disch := omega) [Und, eqf1, eqf2, s0, sg, l0, hit2, q1, q2, ← hq, htk, hsu, ham, htl0, -Bool.exists_bool]
            refine ⟨fun _ => by omega, fun _ _ _ => by omega, by omega, ?_, ?_⟩
            · rw [hlq]; exact congrArg Span.lo hlast
            · rw [hlq]; exact congrArg Span.hi hlast
  · rw [if_neg hok] at hwh htr
    simp (disch := omega) [eLog, hwh, htr, Und, -Bool.exists_bool]
theorem FixShip_ok (E N : Span) (nS : Bool) (S : List Stp) (nt : Bool) (t : List Span) (n : Int) (hs : Slice eStp stpOK (vl eStp nS S) nS S) (hE : i64 E.lo ∧ i64 E.hi) (hN : i64 N.lo ∧ i64 N.hi) (ht : Slice eSpan (fun s => i64 s.lo ∧ i64 s.hi) (vl eSpan nt t) nt t) (hn : i64 n) : ans prog O 8 [eLog E N nS S, vl eSpan nt t, .int .i64 n] = some (.bool true) :=
  FixShip_law E N nS S nt t n (szLog_of hs) (by have := ht.len; omega)
end Go.Oct.Fix
