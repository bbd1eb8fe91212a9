/- Logs: the helpers of the laws; a log with one step more, plain. -/
import Derived.Test.YtddclpecmjibkaaDoorOFixTruW
import Derived.Test.YtddclpecmjibkaaDoorOT3
set_option maxRecDepth 100000
set_option maxHeartbeats 8000000
set_option linter.unusedVariables false
set_option linter.unusedSimpArgs false
namespace Go.Oct.Fix
open Go.Oct
theorem lruns_ok (E N : Span) (nS : Bool) (S : List Stp) (hS : S.length < 2 ^ 62) : ans prog O 41 [eLog E N nS S] = some (.int .i64 (rns S).length) := by
  have hb : ∀ i, (rnT S i).length ≤ i := rnT_le S
  rw [← rnT_all]
  refine fn_of' pl get41 (oo (by decide)) rfl rfl ?_
  simp (disch := omega) [eLog, -Bool.exists_bool]
  refine lp_loop pl (fun k fr σ => ∃ i : Nat, i + k = S.length ∧ fr = ⟨[(1, .ptr (some (0, 0))), (3, .int .i64 (rnT S i).length), (4, .int .i64 i)], []⟩ ∧ σ.lim = 0 ∧ σ.get 0 = some (.cells [.int .i64 E.lo, .int .i64 E.hi, .int .i64 N.lo, .int .i64 N.hi, vl eStp nS S]))
    ⟨S.length, 0, by omega, rfl, rfl, by simp⟩ ?_
  rintro k _ σ ⟨i, hi, rfl, s0, sg⟩
  have l0 := AH.get_lt sg
  by_cases hiS : i < S.length
  · have hiS' : (i : Int) < S.length := by omega
    have hs := rnT_succ hiS
    have hbi := hb i
    by_cases hk : (nth S i).k = 2
    · rw [if_pos (by unfold isRun; simp [hk])] at hs
      have hs2 : (rnT S (i + 1)).length = (rnT S i).length + 1 := by rw [hs]; simp
      simp (disch := omega) [Und, s0, sg, l0, hiS', hk, -Bool.exists_bool]
      exact ⟨k - 1, by omega, i + 1, by omega, by omega, by omega⟩
    · rw [if_neg (by unfold isRun; simp [hk]), List.append_nil] at hs
      simp (disch := omega) [Und, s0, sg, l0, hiS', hk, -Bool.exists_bool]
      exact ⟨k - 1, by omega, i + 1, by omega, by rw [hs]; exact ⟨rfl, by omega⟩⟩
  · obtain rfl : i = S.length := by omega
    simp (disch := omega) [Und, s0, sg, l0, -Bool.exists_bool]
theorem among_ok (nl : Bool) (l : List Span) (e n : Int) (hl : l.length < 2 ^ 62) : ans prog O 39 [vl eSpan nl l, .agg [.int .i64 e, .int .i64 n]] = some (.bool (decide ((⟨e, n⟩ : Span) ∈ l))) := by
  refine fn_of' pl get39 (oo (by decide)) rfl rfl ?_
  simp (disch := omega) [-Bool.exists_bool]
  refine lp_loop pl (fun k fr σ => ∃ i : Nat, i + k = l.length ∧ fr = ⟨[(0, vl eSpan nl l), (3, .ptr (some (0, 0))), (5, .int .i64 i)], []⟩ ∧ σ.lim = 0 ∧ σ.get 0 = some (.cells [.int .i64 e, .int .i64 n]) ∧ ∀ j, j < i → nth l j ≠ ⟨e, n⟩)
    ⟨l.length, 0, by omega, rfl, rfl, by simp, fun j hj => by omega⟩ ?_
  rintro k _ σ ⟨i, hi, rfl, s0, sg, hno⟩
  have l0 := AH.get_lt sg
  by_cases hil : i < l.length
  · have hil' : (i : Int) < l.length := by omega
    by_cases h1 : (nth l i).lo = e ∧ (nth l i).hi = n
    · have hm : (⟨e, n⟩ : Span) ∈ l := by
        rw [mem_nth]
        refine ⟨i, hil, ?_⟩
        cases h : nth l i
        rw [h] at h1
        rw [← h1.1, ← h1.2]
      simp (disch := omega) [Und, s0, sg, l0, hil', h1.1, h1.2, hm, -Bool.exists_bool]
    · have hne : nth l i ≠ ⟨e, n⟩ := fun h => h1 (by rw [h]; exact ⟨rfl, rfl⟩)
      by_cases h2 : (nth l i).lo = e
      · have h3 : ¬ (nth l i).hi = n := fun h => h1 ⟨h2, h⟩
        simp (disch := omega) [Und, s0, sg, l0, hil', h2, h3, -Bool.exists_bool]
        exact ⟨k - 1, by omega, i + 1, by omega, by omega, fun j hj => by
          by_cases e : j = i
          · rw [e]; exact hne
          · exact hno j (by omega)⟩
      · simp (disch := omega) [Und, s0, sg, l0, hil', h2, -Bool.exists_bool]
        exact ⟨k - 1, by omega, i + 1, by omega, by omega, fun j hj => by
          by_cases e : j = i
          · rw [e]; exact hne
          · exact hno j (by omega)⟩
  · obtain rfl : i = l.length := by omega
    have hm : ¬ (⟨e, n⟩ : Span) ∈ l := fun h => by
      obtain ⟨j, h1, h2⟩ := mem_nth.1 h
      exact hno j h1 h2
    simp (disch := omega) [Und, s0, hm, -Bool.exists_bool]
@[simp] theorem at_ok (e n : Int) : ans prog O 42 [.int .i64 e, .int .i64 n] = some (.agg [.int .i64 e, .int .i64 n]) := by
  refine fn_of' pl get42 (oo (by decide)) rfl rfl ?_
  simp (disch := omega) [-Bool.exists_bool]
@[simp] theorem lto_ok (a b : Int) : ans prog O 43 [.int .i64 a, .int .i64 b] = some (.agg [.int .i64 a, .int .i64 b]) := by
  refine fn_of' pl get43 (oo (by decide)) rfl rfl ?_
  simp (disch := omega) [-Bool.exists_bool]
theorem was_true {E N : Span} {S : List Stp} {d p : Nat} (hd : d ≤ (rns S).length) (hp : p < 3600) : wasF E N S d p = true ↔ ∃ t, TrueT E N S t ∧ nth t ((rns S).length - d) = pt p := was_iff hd hp
theorem wasV_ok {E N : Span} {S : List Stp} {k : Nat} (hok : okLog E N S) (hk : k ≤ (rns S).length) (hne : ptsL (canR E N S) ≠ []) : wasV E N S k = .tuple [vl eSpan false (ptsL (wasF E N S ((rns S).length - k))), .int .i64 0] := by
  unfold wasV
  rw [if_pos hok, if_pos ⟨by omega, by omega⟩, if_neg hne, Int.toNat_natCast]
/-- What log arguments are. -/
def stpOK (s : Stp) : Prop := i64 s.k ∧ i64 s.a ∧ i64 s.b ∧ i64 s.vlo ∧ i64 s.vhi ∧ i64 s.elo ∧ i64 s.ehi ∧ i64 s.nlo ∧ i64 s.nhi ∧ s.cl.length < 140737488355328 ∧ ∀ c ∈ s.cl, i64 c.lo ∧ i64 c.hi
abbrev stpSh : List Sh := [.int .i64, .int .i64, .int .i64, .int .i64, .int .i64, .int .i64, .int .i64, .int .i64, .int .i64, .sl true [.int .i64, .int .i64]]
theorem inv_stp {cs : List AV} (hc : CellsAre stpSh cs) : ∃ s : Stp, AV.agg cs = eStp s ∧ stpOK s := by
  obtain ⟨c1, _, rfl, h1, hc⟩ := hc.uncons
  obtain ⟨c2, _, rfl, h2, hc⟩ := hc.uncons
  obtain ⟨c3, _, rfl, h3, hc⟩ := hc.uncons
  obtain ⟨c4, _, rfl, h4, hc⟩ := hc.uncons
  obtain ⟨c5, _, rfl, h5, hc⟩ := hc.uncons
  obtain ⟨c6, _, rfl, h6, hc⟩ := hc.uncons
  obtain ⟨c7, _, rfl, h7, hc⟩ := hc.uncons
  obtain ⟨c8, _, rfl, h8, hc⟩ := hc.uncons
  obtain ⟨c9, _, rfl, h9, hc⟩ := hc.uncons
  obtain ⟨c10, rfl, h10⟩ := hc.one
  obtain ⟨n1, rfl, k1⟩ := h1.inv_int
  obtain ⟨n2, rfl, k2⟩ := h2.inv_int
  obtain ⟨n3, rfl, k3⟩ := h3.inv_int
  obtain ⟨n4, rfl, k4⟩ := h4.inv_int
  obtain ⟨n5, rfl, k5⟩ := h5.inv_int
  obtain ⟨n6, rfl, k6⟩ := h6.inv_int
  obtain ⟨n7, rfl, k7⟩ := h7.inv_int
  obtain ⟨n8, rfl, k8⟩ := h8.inv_int
  obtain ⟨n9, rfl, k9⟩ := h9.inv_int
  obtain ⟨nl, xs, hx⟩ := h10.inv_spans
  obtain rfl := hx.eq
  exact ⟨⟨n1, n2, n3, n4, n5, n6, n7, n8, n9, nl, xs⟩, rfl, k1, k2, k3, k4, k5, k6, k7, k8, k9, hx.len, hx.good⟩
theorem inv_stps {x : AV} (h : CellIs (.sl true stpSh) x) : ∃ nl xs, Slice eStp stpOK x nl xs := by
  refine h.inv_sl fun cs hc => ?_
  obtain ⟨s, h1, h2⟩ := inv_stp hc
  exact ⟨s, h1, h2⟩
theorem szLog_of {x : AV} {nl : Bool} {S : List Stp} (h : Slice eStp stpOK x nl S) : szLog S := by
  have := h.len
  refine ⟨by omega, fun j hj => ?_⟩
  have := (h.good _ (nth_mem hj)).2.2.2.2.2.2.2.2.2.1
  omega
end Go.Oct.Fix
