/- Logs: the helpers of the laws; a log with one step more, plain. -/
import Derived.Test.YtddclpecmjibkaaDoorOFixTruW
import Derived.Test.YtddclpecmjibkaaDoorOT3
set_option maxRecDepth 100000
set_option maxHeartbeats 8000000
set_option linter.unusedVariables false
set_option linter.unusedSimpArgs false
namespace Go.Oct.Fix
open Go.Oct
theorem lruns_ok (E N : Span) (nS : Bool) (S : List Stp) (hS : S.length < 2 ^ 62) : ans prog O 41 [eLog E N nS S] = some (.int .i64 (rns S).length) := by
  have hb : ∀ i, (rnT S i).length ≤ i := rnT_le S
  rw [← rnT_all]
  refine fn_of' pl get41 (oo (by decide)) rfl rfl ?_
  simp (disch := omega) [eLog, -Bool.exists_bool]
  refine lp_loop pl (fun k fr σ => ∃ i : Nat, i + k = S.length ∧ fr = ⟨[(1, .ptr (some (0, 0))), (3, .int .i64 (rnT S i).length), (4, .int .i64 i)], []⟩ ∧ σ.lim = 0 ∧ σ.get 0 = some (.cells [.int .i64 E.lo, .int .i64 E.hi, .int .i64 N.lo, .int .i64 N.hi, vl eStp nS S]))
    ⟨S.length, 0, by omega, rfl, rfl, by simp⟩ ?_
  rintro k _ σ ⟨i, hi, rfl, s0, sg⟩
  have l0 := AH.get_lt sg
  by_cases hiS : i < S.length
  · have hiS' : (i : Int) < S.length := by omega
    have hs := rnT_succ hiS
    have hbi := hb i
    by_cases hk : (nth S i).k = 2
    · rw [if_pos (by unfold isRun; simp [hk])] at hs
      have hs2 : (rnT S (i + 1)).length = (rnT S i).length + 1 := by rw [hs]; simp
      simp (disch := omega) [Und, s0, sg, l0, hiS', hk, -Bool.exists_bool]
      exact ⟨k - 1, by omega, i + 1, by omega, by omega, by omega⟩
    · rw [if_neg (by unfold isRun; simp [hk]), List.append_nil] at hs
      simp (disch := omega) [Und, s0, sg, l0, hiS', hk, -Bool.exists_bool]
      exact ⟨k - 1, by omega, i + 1, by omega, by rw [hs]; exact ⟨rfl, by omega⟩⟩
  · obtain rfl : i = S.length := by omega
    simp (disch := omega) [Und, s0, sg, l0, -Bool.exists_bool]
theorem among_ok (nl : Bool) (l : List Span) (e n : Int) (hl : l.length < 2 ^ 62) : ans prog O 39 [vl eSpan nl l, .agg [.int .i64 e, .int .i64 n]] = some (.bool (decide ((⟨e, n⟩ : Span) ∈ l))) := by
  refine fn_of' pl get39 (oo (by decide)) rfl rfl ?_
  simp (disch := omega) [-Bool.exists_bool]
  refine lp_loop pl (fun k fr σ => ∃ i : Nat, i + k = l.length ∧ fr = ⟨[(0, vl eSpan nl l), (3, .ptr (some (0, 0))), (5, .int .i64 i)], []⟩ ∧ σ.lim = 0 ∧ σ.get 0 = some (.cells [.int .i64 e, .int .i64 n]) ∧ ∀ j, j < i → nth l j ≠ ⟨e, n⟩)
    ⟨l.length, 0, by omega, rfl, rfl, by simp, fun j hj => by omega⟩ ?_
  rintro k _ σ ⟨i, hi, rfl, s0, sg, hno⟩
  have l0 := AH.get_lt sg
  by_cases hil : i < l.length
  · have hil' : (i : Int) < l.length := by omega
    by_cases h1 : (nth l i).lo = e ∧ (nth l i).hi = n
    · have hm : (⟨e, n⟩ : Span) ∈ l := by
        rw [mem_nth]
        refine ⟨i, hil, ?_⟩
        cases h : nth l i
        rw [h] at h1
        rw [← h1.1, ← h1.2]
      simp (disch := omega) [Und, s0, sg, l0, hil', h1.1, h1.2, hm, -Bool.exists_bool]
    · have hne : nth l i ≠ ⟨e, n⟩ := fun h => h1 (by rw [h]; exact ⟨rfl, rfl⟩)
      by_cases h2 : (nth l i).lo = e
      · have h3 : ¬ (nth l i).hi = n := fun h => h1 ⟨h2, h⟩
        simp (disch := omega) [Und, s0, sg, l0, hil', h2, h3, -Bool.exists_bool]
        exact ⟨k - 1, by omega, i + 1, by omega, by omega, fun j hj => by
          by_cases e : j = i
          · rw [e]; exact hne
          · exact hno j (by omega)⟩
      · simp (disch := omega) [Und, s0, sg, l0, hil', h2, -Bool.exists_bool]
        exact ⟨k - 1, by omega, i + 1, by omega, by omega, fun j hj => by
          by_cases e : j = i
          · rw [e]; exact hne
          · exact hno j (by omega)⟩
  · obtain rfl : i = l.length := by omega
    have hm : ¬ (⟨e, n⟩ : Span) ∈ l := fun h => by
      obtain ⟨j, h1, h2⟩ := mem_nth.1 h
      exact hno j h1 h2
    simp (disch := omega) [Und, s0, hm, -Bool.exists_bool]
@[simp] theorem at_ok (e n : Int) : ans prog O 42 [.int .i64 e, .int .i64 n] = some (.agg [.int .i64 e, .int .i64 n]) := by
  refine fn_of' pl get42 (oo (by decide)) rfl rfl ?_
  simp (disch := omega) [-Bool.exists_bool]
@[simp] theorem lto_ok (a b : Int) : ans prog O 43 [.int .i64 a, .int .i64 b] = some (.agg [.int .i64 a, .int .i64 b]) := by
  refine fn_of' pl get43 (oo (by decide)) rfl rfl ?_
  simp (disch := omega) [-Bool.exists_bool]
/-- The first steps are the same. -/
theorem nth_pre {S : List Stp} {x : Stp} {i : Nat} (h : i < S.length) : nth (S ++ [x]) i = nth S i := nth_app_lo h
theorem sgs_pre {S : List Stp} {x : Stp} : ∀ i, i ≤ S.length → sgs (S ++ [x]) i = sgs S i
  | 0, _ => rfl
  | i + 1, h => by
    have ih := sgs_pre (S := S) (x := x) i (by omega)
    simp only [sgs]
    rw [nth_pre (by omega), ih]
/-- A log with one sight (or clocks) more. -/
theorem rns_more {S : List Stp} {x : Stp} (hx : x.k ≠ 2) : rns (S ++ [x]) = rns S := by
  unfold rns
  rw [List.filter_append]
  have : isRun x = false := by unfold isRun; exact decide_eq_false hx
  simp [List.filter, this]
theorem sgs_more {S : List Stp} {x : Stp} (hx : x.k ≠ 2) : sgs (S ++ [x]) (S ++ [x]).length = addL (sgs S S.length) x := by
  rw [List.length_append, List.length_singleton]
  simp only [sgs]
  rw [sgs_pre _ (Nat.le_refl _), nth_app_hi, if_neg (by unfold isRun; simp [hx])]
theorem addL_nth {S : List Stp} {x : Stp} {j : Nat} : nth (addL (sgs S S.length) x) j = if j = (rns S).length then nth (sgs S S.length) j ++ [x] else nth (sgs S S.length) j := by
  have hl := sgs_len (S := S) S.length (Nat.le_refl _)
  rw [rnT_all] at hl
  unfold addL
  rw [nth_set (by omega), hl, Nat.add_sub_cancel]
  split
  · rename_i h; rw [h]
  · rfl
theorem true_more {E N : Span} {S : List Stp} {x : Stp} (hx : x.k ≠ 2) {t : List Span} : TrueT E N (S ++ [x]) t ↔ TrueT E N S t ∧ hld x (nth t (rns S).length).lo (nth t (rns S).length).hi = true := by
  unfold TrueT
  rw [rns_more hx, sgs_more hx]
  have ha : ∀ j, allH (nth (addL (sgs S S.length) x) j) (nth t j).lo (nth t j).hi = (allH (nth (sgs S S.length) j) (nth t j).lo (nth t j).hi && (if j = (rns S).length then hld x (nth t j).lo (nth t j).hi else true)) := fun j => by
    rw [addL_nth]
    unfold allH
    by_cases e : j = (rns S).length
    · rw [if_pos e, if_pos e, List.all_append]; simp
    · rw [if_neg e, if_neg e]; simp
  constructor
  · rintro ⟨h1, h2, h3, h4, h5, h6⟩
    have h7 := h5 (rns S).length (Nat.le_refl _)
    rw [ha, if_pos rfl, Bool.and_eq_true] at h7
    exact ⟨⟨h1, h2, h3, h4, fun i hi => by have := h5 i hi; rw [ha, Bool.and_eq_true] at this; exact this.1, h6⟩, h7.2⟩
  · rintro ⟨⟨h1, h2, h3, h4, h5, h6⟩, h7⟩
    refine ⟨h1, h2, h3, h4, fun i hi => ?_, h6⟩
    rw [ha, Bool.and_eq_true]
    refine ⟨h5 i hi, ?_⟩
    split
    · rename_i e; rw [e]; exact h7
    · rfl
theorem okLog_more {E N : Span} {S : List Stp} {x : Stp} : okLog E N (S ++ [x]) ↔ okLog E N S ∧ S.length < 12 ∧ okStp x := by
  unfold okLog
  constructor
  · rintro ⟨h1, h2, h3, h4⟩
    rw [List.length_append, List.length_singleton] at h3 h4
    exact ⟨⟨h1, h2, by omega, fun j hj => by have := h4 j (by omega); rwa [nth_pre hj] at this⟩, by omega, by have := h4 S.length (by omega); rwa [nth_app_hi] at this⟩
  · rintro ⟨⟨h1, h2, h3, h4⟩, h5, h6⟩
    refine ⟨h1, h2, by simp; omega, fun j hj => ?_⟩
    rw [List.length_append, List.length_singleton] at hj
    by_cases e : j < S.length
    · rw [nth_pre e]; exact h4 j e
    · have : j = S.length := by omega
      rw [this, nth_app_hi]; exact h6
theorem was_true {E N : Span} {S : List Stp} {d p : Nat} (hd : d ≤ (rns S).length) (hp : p < 3600) : wasF E N S d p = true ↔ ∃ t, TrueT E N S t ∧ nth t ((rns S).length - d) = pt p := was_iff hd hp
theorem was_more {E N : Span} {S : List Stp} {x : Stp} (hx : x.k ≠ 2) {d p : Nat} (hd : d ≤ (rns S).length) (hp : p < 3600) (h : wasF E N (S ++ [x]) d p = true) : wasF E N S d p = true := by
  rw [was_true (by rw [rns_more hx]; exact hd) hp, rns_more hx] at h
  obtain ⟨t, h1, h2⟩ := h
  exact (was_true hd hp).2 ⟨t, (true_more hx).1 h1 |>.1, h2⟩
theorem ptsTo_le {f g : Nat → Bool} (h : ∀ n, n < 3600 → f n = true → g n = true) : ∀ n, n ≤ 3600 → (ptsTo f n).length ≤ (ptsTo g n).length
  | 0, _ => Nat.le_refl _
  | n + 1, hn => by
    have ih := ptsTo_le h n (by omega)
    rw [ptsTo_succ, ptsTo_succ, List.length_append, List.length_append]
    by_cases e : f n = true
    · rw [if_pos e, if_pos (h n (by omega) e)]; simp; omega
    · rw [if_neg e]; simp; omega
theorem wasV_ok {E N : Span} {S : List Stp} {k : Nat} (hok : okLog E N S) (hk : k ≤ (rns S).length) (hne : ptsL (canR E N S) ≠ []) : wasV E N S k = .tuple [vl eSpan false (ptsL (wasF E N S ((rns S).length - k))), .int .i64 0] := by
  unfold wasV
  rw [if_pos hok, if_pos ⟨by omega, by omega⟩, if_neg hne, Int.toNat_natCast]
theorem wasV_no {E N : Span} {S : List Stp} {k : Nat} (hk : k ≤ (rns S).length) (h : ¬ (okLog E N S ∧ ptsL (canR E N S) ≠ [])) : ∃ e : Int, wasV E N S k = .tuple [vl eSpan true [], .int .i64 e] ∧ (e = 4 ∨ e = 80) := by
  unfold wasV
  by_cases hok : okLog E N S
  · have hne : ptsL (canR E N S) = [] := Classical.byContradiction fun h2 => h ⟨hok, h2⟩
    rw [if_pos hok, if_pos ⟨by omega, by omega⟩, if_pos hne]
    exact ⟨4, rfl, .inl rfl⟩
  · rw [if_neg hok]
    exact ⟨80, rfl, .inr rfl⟩
theorem wasV_any {E N : Span} {S : List Stp} {k : Nat} (hk : k ≤ (rns S).length) : ∃ (nl : Bool) (l : List Span) (e : Int), wasV E N S k = .tuple [vl eSpan nl l, .int .i64 e] ∧ l.length ≤ 3600 := by
  by_cases h : okLog E N S ∧ ptsL (canR E N S) ≠ []
  · exact ⟨_, _, _, wasV_ok h.1 hk h.2, ptsTo_len _ _⟩
  · obtain ⟨e, h1, _⟩ := wasV_no hk h
    exact ⟨_, _, _, h1, by simp⟩
/-- What log arguments are. -/
def stpOK (s : Stp) : Prop := i64 s.k ∧ i64 s.a ∧ i64 s.b ∧ i64 s.vlo ∧ i64 s.vhi ∧ i64 s.elo ∧ i64 s.ehi ∧ i64 s.nlo ∧ i64 s.nhi ∧ s.cl.length < 140737488355328 ∧ ∀ c ∈ s.cl, i64 c.lo ∧ i64 c.hi
abbrev stpSh : List Sh := [.int .i64, .int .i64, .int .i64, .int .i64, .int .i64, .int .i64, .int .i64, .int .i64, .int .i64, .sl true [.int .i64, .int .i64]]
theorem inv_stp {cs : List AV} (hc : CellsAre stpSh cs) : ∃ s : Stp, AV.agg cs = eStp s ∧ stpOK s := by
  obtain ⟨c1, _, rfl, h1, hc⟩ := hc.uncons
  obtain ⟨c2, _, rfl, h2, hc⟩ := hc.uncons
  obtain ⟨c3, _, rfl, h3, hc⟩ := hc.uncons
  obtain ⟨c4, _, rfl, h4, hc⟩ := hc.uncons
  obtain ⟨c5, _, rfl, h5, hc⟩ := hc.uncons
  obtain ⟨c6, _, rfl, h6, hc⟩ := hc.uncons
  obtain ⟨c7, _, rfl, h7, hc⟩ := hc.uncons
  obtain ⟨c8, _, rfl, h8, hc⟩ := hc.uncons
  obtain ⟨c9, _, rfl, h9, hc⟩ := hc.uncons
  obtain ⟨c10, rfl, h10⟩ := hc.one
  obtain ⟨n1, rfl, k1⟩ := h1.inv_int
  obtain ⟨n2, rfl, k2⟩ := h2.inv_int
  obtain ⟨n3, rfl, k3⟩ := h3.inv_int
  obtain ⟨n4, rfl, k4⟩ := h4.inv_int
  obtain ⟨n5, rfl, k5⟩ := h5.inv_int
  obtain ⟨n6, rfl, k6⟩ := h6.inv_int
  obtain ⟨n7, rfl, k7⟩ := h7.inv_int
  obtain ⟨n8, rfl, k8⟩ := h8.inv_int
  obtain ⟨n9, rfl, k9⟩ := h9.inv_int
  obtain ⟨nl, xs, hx⟩ := h10.inv_spans
  obtain rfl := hx.eq
  exact ⟨⟨n1, n2, n3, n4, n5, n6, n7, n8, n9, nl, xs⟩, rfl, k1, k2, k3, k4, k5, k6, k7, k8, k9, hx.len, hx.good⟩
theorem inv_stps {x : AV} (h : CellIs (.sl true stpSh) x) : ∃ nl xs, Slice eStp stpOK x nl xs := by
  refine h.inv_sl fun cs hc => ?_
  obtain ⟨s, h1, h2⟩ := inv_stp hc
  exact ⟨s, h1, h2⟩
theorem szLog_of {x : AV} {nl : Bool} {S : List Stp} (h : Slice eStp stpOK x nl S) : szLog S := by
  have := h.len
  refine ⟨by omega, fun j hj => ?_⟩
  have := (h.good _ (nth_mem hj)).2.2.2.2.2.2.2.2.2.1
  omega
end Go.Oct.Fix
