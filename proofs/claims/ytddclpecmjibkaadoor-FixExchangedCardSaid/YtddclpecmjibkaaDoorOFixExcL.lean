/- FixExchanged: it answers true at all arguments. -/
import Derived.Test.YtddclpecmjibkaaDoorOFixExcP
import Derived.Test.YtddclpecmjibkaaDoorOFixMorL
set_option maxRecDepth 100000
set_option maxHeartbeats 8000000
set_option linter.unusedVariables false
set_option linter.unusedSimpArgs false
namespace Go.Oct.Fix
open Go.Oct
theorem buf_one {α : Type} {e : α → AV} {z lo : Nat} {σ : AH} {v : AV} {xs : List α} (h : Buf lo z e σ v xs) : v.dfd = true ∧ v.cells = [v] ∧ v.one = true := by
  rcases h with ⟨rfl, _⟩ | ⟨i, rfl, _⟩ <;> exact ⟨rfl, rfl, rfl⟩
/-- Both answers at once. -/
theorem was_both {E N : Span} {S : List Stp} {k : Nat} (hno : ∀ j, j < S.length → (nth S j).k ≠ 3) (hkR : k ≤ (rns S).length) : ∃ (nl : Bool) (la lb : List Span) (e : Int), wasV E N S k = .tuple [vl eSpan nl la, .int .i64 e] ∧ wasV N E (S.map swS) k = .tuple [vl eSpan nl lb, .int .i64 e] ∧ lb.length = la.length ∧ la.length ≤ 3600 ∧ ∀ q ∈ la, swp q ∈ lb := by
  have hR : (rns (S.map swS)).length = (rns S).length := by rw [rns_sw, List.length_map]
  by_cases hok : okLog E N S
  · have hks : ∀ s ∈ S, s.k = 1 ∨ s.k = 2 := fun s hs => by
      obtain ⟨j, h1, h2⟩ := mem_nth.1 hs
      have h3 := hno j h1
      rcases hok.2.2.2 j h1 with h | h | h
      · rw [← h2]; exact .inl h.1
      · rw [← h2]; exact .inr h.1
      · exact absurd h.1 h3
    have hok2 := okLog_sw.2 hok
    by_cases hne : ptsL (canR E N S) = []
    · have hne2 : ptsL (canR N E (S.map swS)) = [] := Classical.byContradiction fun h => (can_sw hks).1 h hne
      refine ⟨true, [], [], 4, ?_, ?_, rfl, by simp, fun q hq => by cases hq⟩
      · unfold wasV; rw [if_pos hok, if_pos ⟨by omega, by omega⟩, if_pos hne]
      · unfold wasV; rw [if_pos hok2, if_pos ⟨by omega, by omega⟩, if_pos hne2]
    · refine ⟨false, _, _, 0, wasV_ok hok hkR hne, wasV_ok hok2 (by omega) ((can_sw hks).2 hne), ?_, ptsTo_len _ _, fun q hq => ?_⟩
      · rw [hR]; exact was_len hks hkR
      · rw [hR]; exact was_sw hks hkR hq
  · have hok2 : ¬ okLog N E (S.map swS) := fun h => hok (okLog_sw.1 h)
    refine ⟨true, [], [], 80, ?_, ?_, rfl, by simp, fun q hq => by cases hq⟩
    · unfold wasV; rw [if_neg hok]
    · unfold wasV; rw [if_neg hok2]
theorem FixExchanged_law (E N : Span) (nS : Bool) (S : List Stp) (n : Int) (hz : szLog S) (hSl : S.length * 96 < 140737488355328) : ans prog O 15 [eLog E N nS S, .int .i64 n] = some (.bool true) := by
  have hru := lruns_ok E N nS S hz.1
  have hRle := rnT_le S S.length
  rw [rnT_all] at hRle
  obtain ⟨k, hk⟩ : ∃ k : Nat, n % (((rns S).length : Int) + 1) = k := ⟨(n % (((rns S).length : Int) + 1)).toNat, by
    have := Int.emod_nonneg n (show ((rns S).length : Int) + 1 ≠ 0 by omega)
    omega⟩
  have hkR : k ≤ (rns S).length := by
    have := Int.emod_lt_of_pos n (show (0 : Int) < ((rns S).length : Int) + 1 by omega)
    omega
  have hwas := Was_ok E N nS S k hz
  unfold eLog at hru hwas
  refine fn_of' pl get15 (oo (by decide)) rfl rfl ?_
  simp (disch := omega) [eLog, Und, eqf1, eqf2, -Bool.exists_bool]
  generalize hσ : AH.set _ 1 _ = σ0
  have z0 : σ0.lim = 0 := by rw [← hσ]; rfl
  have zn : σ0.next = 2 := by rw [← hσ]; rfl
  have g0 : σ0.get 0 = some (.cells [.int .i64 E.lo, .int .i64 E.hi, .int .i64 N.lo, .int .i64 N.hi, vl eStp nS S]) := by rw [← hσ]; simp
  have g1 : σ0.get 1 = some (.cells [.int .i64 N.lo, .int .i64 N.hi, .int .i64 E.lo, .int .i64 E.hi, .vsl true []]) := by rw [← hσ]; simp
  clear hσ
  refine lp_loop pl (fun r fr σ => ∃ i v, i + r = S.length ∧ fr = ⟨[(1, .int .i64 n), (2, .ptr (some (0, 0))), (5, .ptr (some (1, 0))), (6, .int .i64 i)], []⟩ ∧ σ.lim = 0 ∧ 2 ≤ σ.next ∧ σ.get 0 = some (.cells [.int .i64 E.lo, .int .i64 E.hi, .int .i64 N.lo, .int .i64 N.hi, vl eStp nS S]) ∧ σ.get 1 = some (.cells [.int .i64 N.lo, .int .i64 N.hi, .int .i64 E.lo, .int .i64 E.hi, v]) ∧ Buf 2 10 eStp σ v ((S.map swS).take i) ∧ ∀ j, j < i → (nth S j).k ≠ 3)
    ⟨S.length, 0, _, by omega, rfl, z0, by omega, g0, g1, Buf.nil, fun j hj => by omega⟩ ?_
  rintro r _ σ ⟨i, v, hi, rfl, t0, tn, b0, b1, hb, hno⟩
  have l0 := AH.get_lt b0
  have l1 := AH.get_lt b1
  have n0' : ¬ 0 = σ.next := by omega
  have n1' : ¬ 1 = σ.next := by omega
  by_cases hiS : i < S.length
  · have hiS' : (i : Int) < S.length := by omega
    have hvd := hb.len
    have hil : ((S.map swS).take i).length = i := by rw [List.length_take, List.length_map]; omega
    by_cases hk3 : (nth S i).k = 3
    · simp (disch := omega) [Und, eqf1, eqf2, t0, b0, b1, l0, l1, n0', n1', hiS', hk3, -Bool.exists_bool]
    · simp (disch := omega) [Und, eqf1, eqf2, t0, b0, b1, l0, l1, n0', n1', hiS', hk3, -Bool.exists_bool]
      have nxt : ∀ (τ : AH), τ.lim = 0 → σ.next < τ.next → (∀ z, z < σ.next → τ.get z = σ.get z) → ∀ (K : AV → AH → Prop), (∀ v' τ', τ'.lim = 0 → 2 ≤ τ'.next → (∀ z, z < 2 → τ'.get z = σ.get z) → Buf 2 10 eStp τ' v' ((S.map swS).take (i + 1)) → K v' τ') → OptK2 (aappend 10 96 v (.slice (some (τ.next, 0)) 1 (.ex 1)) (τ.push (.cells (eStp (swS (nth S i))).cells))) K := by
        intro τ h1 h2 h3 K hK
        refine (hb.keep fun z _ hz => h3 z hz).push encStp (by omega) (by omega) (swS (nth S i)) (by simp only [topBytes]; omega) rfl fun v' τ' k1 k2 => hK v' τ' (k2.lim.trans h1) (by have := k2.next; omega) (fun z hz => ?_) ?_
        · rw [k2.get z (by omega), h3 z (by omega)]
        · rw [← nth_swS hiS, ← take_succ_nth (show i < (S.map swS).length by rw [List.length_map]; exact hiS)] at k1; exact k1
      refine nxt _ (by exact t0) (by exact Nat.lt_succ_self _) (fun z hz => by
        have hz1 : ¬ z = σ.next := by omega
        have hz2 : ¬ σ.next = z := by omega
        simp [hz1, hz2]) _ fun v' τ w1 w2 w3 w4 => ?_
      have d0 := (w3 0 (by omega)).trans b0
      have d1 := (w3 1 (by omega)).trans b1
      have ld0 := AH.get_lt d0
      have ld1 := AH.get_lt d1
      obtain ⟨hv1, hv2, hv3⟩ := buf_one w4
      simp (disch := omega) [Und, eqf1, eqf2, w1, d0, d1, ld0, ld1, hv1, hv2, hv3, -Bool.exists_bool]
      exact ⟨r - 1, by omega, i + 1, by omega, by omega, w2, w4.keep fun z hz1 _ => AH.get_set_other _ _ _ _ (by omega), fun j hj => by
        by_cases e : j = i
        · rw [e]; exact hk3
        · exact hno j (by omega)⟩
  · obtain rfl : i = S.length := by omega
    have hall : (S.map swS).take S.length = S.map swS := List.take_of_length_le (by rw [List.length_map]; exact Nat.le_refl _)
    rw [hall] at hb
    obtain ⟨nl, la, lb, e, e1, e2, e3, e4, e5⟩ := was_both (E := E) (N := N) hno hkR
    have e3' : (lb.length : Int) = la.length := by omega
    rw [e1] at hwas
    rcases hb with ⟨rfl, hnil⟩ | ⟨o, rfl, o2, og, _⟩
    · have hx : ans prog O 24 [.agg [.int .i64 N.lo, .int .i64 N.hi, .int .i64 E.lo, .int .i64 E.hi, .vsl true []], .int .i64 k] = some (wasV N E (S.map swS) k) := by
        rw [hnil]
        exact Was_ok N E true [] k ⟨by decide, fun j hj => absurd hj (Nat.not_lt_zero j)⟩
      rw [e2] at hx
      simp (disch := omega) [Und, eqf1, eqf2, t0, b0, b1, l0, l1, hru, hk, hwas, hx, e3', -Bool.exists_bool]
      refine lp_loop pl (fun r fr σ => ∃ j : Nat, j + r = la.length ∧ fr = ⟨[(9, vl eSpan nl la), (11, vl eSpan nl lb), (13, .int .i64 j)], []⟩ ∧ σ.lim = 0)
        ⟨la.length, 0, by omega, rfl, by assumption⟩ ?_
      rintro r _ σ2 ⟨j, hj, rfl, u0⟩
      by_cases hja : j < la.length
      · have hja' : (j : Int) < la.length := by omega
        have hin := among_ok nl lb (nth la j).hi (nth la j).lo (by omega)
        rw [decide_eq_true (show (⟨(nth la j).hi, (nth la j).lo⟩ : Span) ∈ lb from e5 _ (nth_mem hja))] at hin
        simp (disch := omega) [Und, u0, hja', hin, -Bool.exists_bool]
        exact ⟨r - 1, by omega, j + 1, by omega, by omega⟩
      · obtain rfl : j = la.length := by omega
        simp (disch := omega) [Und, u0, -Bool.exists_bool]
    · have hx := Was_ok N E false (S.map swS) k ⟨by rw [List.length_map]; exact hz.1, fun j hj => by
        rw [List.length_map] at hj
        rw [nth_swS hj]; exact hz.2 j hj⟩
      rw [e2] at hx
      simp (disch := omega) [Und, eqf1, eqf2, t0, b0, b1, l0, l1, hru, hk, hwas, e3', -Bool.exists_bool]
      have hsn := log_snap (E := N) (N := E) (S := S.map swS) (AH.cel_get og) (.inl rfl)
      rw [List.length_map] at hsn
      refine pc_ro (.cons hsn (.cons (Snap.int _ _ _) .nil)) (fun h => by cases h) (by simp) (oo (args := []) (by decide)).1 (fun z hz => by rw [t0]; omega) hx fun τ3 oo3 ce3 => ?_
      have y0 := oo3.lim.trans t0
      simp (disch := omega) [Und, eqf1, eqf2, y0, e3', -Bool.exists_bool]
      refine lp_loop pl (fun r fr σ => ∃ j : Nat, j + r = la.length ∧ fr = ⟨[(9, vl eSpan nl la), (11, vl eSpan nl lb), (13, .int .i64 j)], []⟩ ∧ σ.lim = 0)
        ⟨la.length, 0, by omega, rfl, y0⟩ ?_
      rintro r _ σ2 ⟨j, hj, rfl, u0⟩
      by_cases hja : j < la.length
      · have hja' : (j : Int) < la.length := by omega
        have hin := among_ok nl lb (nth la j).hi (nth la j).lo (by omega)
        rw [decide_eq_true (show (⟨(nth la j).hi, (nth la j).lo⟩ : Span) ∈ lb from e5 _ (nth_mem hja))] at hin
        simp (disch := omega) [Und, u0, hja', hin, -Bool.exists_bool]
        exact ⟨r - 1, by omega, j + 1, by omega, by omega⟩
      · obtain rfl : j = la.length := by omega
        simp (disch := omega) [Und, u0, -Bool.exists_bool]
theorem FixExchanged_ok (E N : Span) (nS : Bool) (S : List Stp) (n : Int) (hs : Slice eStp stpOK (vl eStp nS S) nS S) (hE : i64 E.lo ∧ i64 E.hi) (hN : i64 N.lo ∧ i64 N.hi) (hn : i64 n) (hf : S.length * 96 < 140737488355328) : ans prog O 15 [eLog E N nS S, .int .i64 n] = some (.bool true) :=
  FixExchanged_law E N nS S n (szLog_of hs) hf
end Go.Oct.Fix
