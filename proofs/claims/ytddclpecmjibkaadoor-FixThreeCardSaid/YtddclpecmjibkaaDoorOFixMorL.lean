/- FixMore: it answers true at all arguments. -/
import Derived.Test.YtddclpecmjibkaaDoorOFixHlpW
set_option maxRecDepth 100000
set_option maxHeartbeats 8000000
set_option linter.unusedVariables false
set_option linter.unusedSimpArgs false
namespace Go.Oct.Fix
open Go.Oct
/-- A log's snapshot, its steps being in an object. -/
theorem log_snap {E N : Span} {S : List Stp} {σ : AH} {o : Nat} {c : ACap} (hcel : σ.cel o = some (rowOf eStp S)) (hc : c = .op 10 ∨ c = .ex S.length) : Snap σ (.agg [.int .i64 E.lo, .int .i64 E.hi, .int .i64 N.lo, .int .i64 N.hi, .slice (some (o, 0)) S.length c]) [o] (eLog E N false S) := by
  refine ⟨?_, fun T hT => ?_⟩
  · show [AV.int .i64 E.lo, .int .i64 E.hi, .int .i64 N.lo, .int .i64 N.hi, .slice (some (o, 0)) S.length c].flatMap (idsV 7 σ.cel) = [o]
    have e : idsV 7 σ.cel (.slice (some (o, 0)) S.length c) = [o] := by
      show (match σ.cel o with | some cs => o :: cs.flatMap (idsV 6 σ.cel) | none => []) = _
      rw [hcel]
      have : (rowOf eStp S).flatMap (idsV 6 σ.cel) = [] := by
        rw [List.flatMap_eq_nil_iff]
        intro x hx
        exact (flat_row flatStp S x hx 5 _).1
      simp [this]
    simp only [List.flatMap_cons, List.flatMap_nil, e]
    rfl
  · have hce : σ.celOf T o = some (rowOf eStp S) := by
      unfold AH.celOf
      rw [if_pos (by simpa using hT o (by simp)), hcel]
    have := fz_whole encStp flatStp (f := σ.celOf T) (o := o) (xs := S) (c := c) hce hc 5
    show AV.agg [AV.int .i64 E.lo, .int .i64 E.hi, .int .i64 N.lo, .int .i64 N.hi, fzV 7 (σ.celOf T) (.slice (some (o, 0)) S.length c)] = _
    rw [this]
    rfl
/-- A step, made a sight. -/
def sgt (s : Stp) : Stp := ⟨1, s.a, s.b, s.vlo, s.vhi, s.elo, s.ehi, s.nlo, s.nhi, s.cn, s.cl⟩
theorem FixMore_law (E N : Span) (nS : Bool) (S : List Stp) (s : Stp) (n : Int) (hz : szLog S) (hs : s.cl.length < 2 ^ 62) : ans prog O 10 [eLog E N nS S, eStp s, .int .i64 n] = some (.bool true) := by
  refine fn_of' pl get10 (oo (by decide)) rfl rfl ?_
  by_cases h12 : 12 ≤ (S.length : Int)
  · simp (disch := omega) [eLog, eStp, Und, h12, -Bool.exists_bool]
  · have hS := hz.1
    have hru := lruns_ok E N nS S (by omega)
    have hRle := rnT_le S S.length
    rw [rnT_all] at hRle
    have h12' : ¬ 12 ≤ (S.length : Int) := h12
    unfold eLog at hru
    simp (disch := omega) [eLog, eStp, Und, h12', hru, -Bool.exists_bool]
    generalize hσ : AH.under _ 3 = σ0
    have e0 : σ0.lim = 3 := by rw [← hσ]; rfl
    have en : σ0.next = 3 := by rw [← hσ]; rfl
    have e1 : σ0.get 1 = some (.cells [.int .i64 1, .int .i64 s.a, .int .i64 s.b, .int .i64 s.vlo, .int .i64 s.vhi, .int .i64 s.elo, .int .i64 s.ehi, .int .i64 s.nlo, .int .i64 s.nhi, vl eSpan s.cn s.cl]) := by rw [← hσ]; simp
    have e2 : σ0.get 2 = some (.cells [.int .i64 E.lo, .int .i64 E.hi, .int .i64 N.lo, .int .i64 N.hi, vl eStp nS S]) := by rw [← hσ]; simp
    have e3 : σ0.get 0 = some (.cells [.int .i64 E.lo, .int .i64 E.hi, .int .i64 N.lo, .int .i64 N.hi, vl eStp nS S]) := by rw [← hσ]; simp
    clear hσ
    refine lit0_app (lo := 3) (ys := S) (e := eStp) encStp (Nat.le_refl _) (by simp [en]) (by rw [← en]; exact AH.get_push_new _ _) (vl_src encStp nS S) (by simp only [topBytes]; omega) fun w σ1 w1 w2 w3 => ?_
    have x0 : σ1.lim = 3 := w2.lim.trans e0
    have xn := w2.next
    simp [en] at xn
    have xg : ∀ z, z < 3 → σ1.get z = σ0.get z := fun z hz => by rw [w2.get z (by simp [en]; omega) (by simp), AH.get_push_old _ _ _ (by omega)]
    have x1 := (xg 1 (by omega)).trans e1
    have x2 := (xg 2 (by omega)).trans e2
    have x3 := (xg 0 (by omega)).trans e3
    have y1 := AH.get_lt x1
    have y2 := AH.get_lt x2
    have y3 := AH.get_lt x3
    simp (disch := omega) [Und, x0, x1, x2, x3, y1, y2, y3, -Bool.exists_bool]
    have w1' : Whole 3 10 eStp (σ1.under 0) w S := by
      obtain ⟨o, c, rfl, o3, g, hc⟩ := w1
      exact ⟨o, c, rfl, o3, g, hc⟩
    refine w1'.app (ys := [sgt s]) encStp (by show 0 ≤ 3; omega) (by show 3 ≤ σ1.next; omega) rfl rfl (by simp only [topBytes, List.length_singleton]; omega) fun w2' τ h2 g2 => ?_
    have t0 : τ.lim = 0 := g2.lim
    have tn : σ1.next ≤ τ.next := g2.next
    have tg : ∀ z, z < 3 → τ.get z = σ1.get z := fun z hz => g2.get z hz
    have t2 := (tg 2 (by omega)).trans x2
    have t0' := (tg 0 (by omega)).trans x3
    have lt2 := AH.get_lt t2
    have lt0 := AH.get_lt t0'
    obtain ⟨o, c, rfl, o3, og, oc⟩ := h2
    have hm0 := Int.emod_nonneg n (show ((rns S).length : Int) + 1 ≠ 0 by omega)
    have hm1 := Int.emod_lt_of_pos n (show (0 : Int) < ((rns S).length : Int) + 1 by omega)
    obtain ⟨k, hk⟩ : ∃ k : Nat, n % (((rns S).length : Int) + 1) = k := ⟨(n % (((rns S).length : Int) + 1)).toNat, by omega⟩
    have hwas := Was_ok E N nS S k hz
    have lo := AH.get_lt og
    have hwas2 := Was_ok E N false (S ++ [sgt s]) k (by
      refine ⟨by simp; omega, fun j hj => ?_⟩
      rw [List.length_append, List.length_singleton] at hj
      by_cases e : j < S.length
      · rw [nth_pre e]; exact hz.2 j e
      · have : j = S.length := by omega
        rw [this, nth_app_hi]; exact hs)
    have hx : (sgt s).k ≠ 2 := by show (1 : Int) ≠ 2; decide
    have hkR : k ≤ (rns S).length := by omega
    have hkR2 : k ≤ (rns (S ++ [sgt s])).length := by rw [rns_more hx]; exact hkR
    unfold eLog at hwas
    have hsn : ∀ τ2 : AH, τ2.get o = some (.cells (rowOf eStp (S ++ [sgt s]))) → Snap τ2 (.agg [.int .i64 E.lo, .int .i64 E.hi, .int .i64 N.lo, .int .i64 N.hi, .slice (some (o, 0)) (S.length + 1) c]) [o] (eLog E N false (S ++ [sgt s])) := fun τ2 h => by
      have := log_snap (E := E) (N := N) (S := S ++ [sgt s]) (AH.cel_get h) oc
      rwa [List.length_append, List.length_singleton] at this
    by_cases hm : okLog E N (S ++ [sgt s]) ∧ ptsL (canR E N (S ++ [sgt s])) ≠ []
    · have hok1 := (okLog_more.1 hm.1).1
      have hne1 : ptsL (canR E N S) ≠ [] := fun h => by
        obtain ⟨q, hq⟩ := List.exists_mem_of_ne_nil _ hm.2
        obtain ⟨m, h1, h2, _⟩ := ptsL_mem.1 hq
        have h3 := was_more hx (Nat.zero_le _) h1 (d := 0) (p := m) (E := E) (N := N) h2
        have : pt m ∈ ptsL (canR E N S) := ptsL_mem.2 ⟨m, h1, h3, rfl⟩
        rw [h] at this; cases this
      rw [wasV_ok hok1 hkR hne1] at hwas
      rw [wasV_ok hm.1 hkR2 hm.2, rns_more hx] at hwas2
      have hsub : ∀ m, m < 3600 → wasF E N (S ++ [sgt s]) ((rns S).length - k) m = true → wasF E N S ((rns S).length - k) m = true := fun m hm' h => was_more hx (by omega) hm' h
      have hle := ptsTo_le hsub 3600 (Nat.le_refl _)
      obtain ⟨la, hla⟩ : ∃ la, la = ptsL (wasF E N S ((rns S).length - k)) := ⟨_, rfl⟩
      obtain ⟨lb, hlb⟩ : ∃ lb, lb = ptsL (wasF E N (S ++ [sgt s]) ((rns S).length - k)) := ⟨_, rfl⟩
      have hmem : ∀ q, q ∈ lb → q ∈ la := fun q hq => by
        rw [hlb] at hq
        rw [hla]
        obtain ⟨m, h1, h2, h3⟩ := ptsL_mem.1 hq
        exact ptsL_mem.2 ⟨m, h1, hsub m h1 h2, h3⟩
      have hla2 : la.length ≤ 3600 := by rw [hla]; exact ptsTo_len _ _
      rw [← hla] at hwas
      rw [← hlb] at hwas2
      have hle2 : lb.length ≤ la.length := by rw [hla, hlb]; exact hle
      have hle' : ¬ (la.length : Int) < lb.length := by omega
      simp (disch := omega) [Und, eqf1, eqf2, t0, t2, t0', lt2, lt0, hru, hk, hwas, -Bool.exists_bool, -getElem?_pos]
      generalize hυ : AH.set τ 2 _ = τ2
      have v0 : τ2.lim = 0 := by rw [← hυ]; exact t0
      have vg : τ2.get o = some (.cells (rowOf eStp (S ++ [sgt s]))) := (by have h22 : o ≠ 2 := (by omega); rw [← hυ]; simp [og, h22])
      clear hυ
      refine pc_ro (.cons (hsn τ2 vg) (.cons (Snap.int _ _ _) .nil)) (fun h => by cases h) (by simp) (oo (args := []) (by decide)).1 (fun z hz => by rw [v0]; omega) hwas2 fun υ o2 ce2 => ?_
      have u0 := o2.lim.trans v0
      simp (disch := omega) [Und, eqf1, eqf2, hle', -Bool.exists_bool, -getElem?_pos]
      have hlb2 : lb.length ≤ 3600 := by omega
      refine lp_loop pl (fun k fr σ => ∃ i : Nat, i + k = lb.length ∧ fr = ⟨[(9, vl eSpan false la), (11, vl eSpan false lb), (13, .int .i64 i)], []⟩ ∧ σ.lim = 0)
        ⟨lb.length, 0, by omega, rfl, u0⟩ ?_
      rintro r _ σ ⟨i, hi, rfl, s0⟩
      by_cases hib : i < lb.length
      · have hib' : (i : Int) < lb.length := by omega
        have hin := among_ok false la (nth lb i).lo (nth lb i).hi (by omega)
        have hin2 : (⟨(nth lb i).lo, (nth lb i).hi⟩ : Span) ∈ la := hmem _ (nth_mem hib)
        rw [decide_eq_true hin2] at hin
        simp (disch := omega) [Und, s0, hib', hin, -Bool.exists_bool]
        exact ⟨r - 1, by omega, i + 1, by omega, by omega⟩
      · obtain rfl : i = lb.length := by omega
        simp (disch := omega) [Und, s0, -Bool.exists_bool]
    · obtain ⟨nl1, l1, e1, h1, _⟩ := wasV_any (E := E) (N := N) hkR
      obtain ⟨e2, h2, h3⟩ := wasV_no hkR2 hm
      rw [h1] at hwas
      rw [h2] at hwas2
      simp (disch := omega) [Und, eqf1, eqf2, t0, t2, t0', lt2, lt0, hru, hk, hwas, -Bool.exists_bool, -getElem?_pos]
      generalize hυ : AH.set τ 2 _ = τ2
      have v0 : τ2.lim = 0 := by rw [← hυ]; exact t0
      have vg : τ2.get o = some (.cells (rowOf eStp (S ++ [sgt s]))) := (by have h22 : o ≠ 2 := (by omega); rw [← hυ]; simp [og, h22])
      clear hυ
      refine pc_ro (.cons (hsn τ2 vg) (.cons (Snap.int _ _ _) .nil)) (fun h => by cases h) (by simp) (oo (args := []) (by decide)).1 (fun z hz => by rw [v0]; omega) hwas2 fun υ o2 ce2 => ?_
      have u0 := o2.lim.trans v0
      rcases h3 with rfl | rfl
      · simp (disch := omega) [Und, eqf1, eqf2, -Bool.exists_bool, -getElem?_pos]
      · simp (disch := omega) [Und, eqf1, eqf2, -Bool.exists_bool, -getElem?_pos]
theorem FixMore_ok (E N : Span) (nS : Bool) (S : List Stp) (s : Stp) (n : Int) (hs : Slice eStp stpOK (vl eStp nS S) nS S) (hE : i64 E.lo ∧ i64 E.hi) (hN : i64 N.lo ∧ i64 N.hi) (hst : stpOK s) (hn : i64 n) : ans prog O 10 [eLog E N nS S, eStp s, .int .i64 n] = some (.bool true) :=
  FixMore_law E N nS S s n (szLog_of hs) (by have := hst.2.2.2.2.2.2.2.2.2.1; omega)
end Go.Oct.Fix
