/- Logs: the helpers of the laws; a log with one step more, plain. -/
import Derived.Test.YtddclpecmjibkaaDoorOFixTruW
import Derived.Test.YtddclpecmjibkaaDoorOT3
set_option maxRecDepth 100000
set_option maxHeartbeats 8000000
set_option linter.unusedVariables false
set_option linter.unusedSimpArgs false
namespace Go.Oct.Fix
open Go.Oct
@[simp] theorem at_ok (e n : Int) : ans prog O 42 [.int .i64 e, .int .i64 n] = some (.agg [.int .i64 e, .int .i64 n]) := by
  refine fn_of' pl get42 (oo (by decide)) rfl rfl ?_
  simp (disch := omega) [-Bool.exists_bool]
@[simp] theorem lto_ok (a b : Int) : ans prog O 43 [.int .i64 a, .int .i64 b] = some (.agg [.int .i64 a, .int .i64 b]) := by
  refine fn_of' pl get43 (oo (by decide)) rfl rfl ?_
  simp (disch := omega) [-Bool.exists_bool]
/-- What log arguments are. -/
def stpOK (s : Stp) : Prop := i64 s.k ∧ i64 s.a ∧ i64 s.b ∧ i64 s.vlo ∧ i64 s.vhi ∧ i64 s.elo ∧ i64 s.ehi ∧ i64 s.nlo ∧ i64 s.nhi ∧ s.cl.length < 140737488355328 ∧ ∀ c ∈ s.cl, i64 c.lo ∧ i64 c.hi
abbrev stpSh : List Sh := [.int .i64, .int .i64, .int .i64, .int .i64, .int .i64, .int .i64, .int .i64, .int .i64, .int .i64, .sl true [.int .i64, .int .i64]]
theorem inv_stp {cs : List AV} (hc : CellsAre stpSh cs) : ∃ s : Stp, AV.agg cs = eStp s ∧ stpOK s := by
  obtain ⟨c1, _, rfl, h1, hc⟩ := hc.uncons
  obtain ⟨c2, _, rfl, h2, hc⟩ := hc.uncons
  obtain ⟨c3, _, rfl, h3, hc⟩ := hc.uncons
  obtain ⟨c4, _, rfl, h4, hc⟩ := hc.uncons
  obtain ⟨c5, _, rfl, h5, hc⟩ := hc.uncons
  obtain ⟨c6, _, rfl, h6, hc⟩ := hc.uncons
  obtain ⟨c7, _, rfl, h7, hc⟩ := hc.uncons
  obtain ⟨c8, _, rfl, h8, hc⟩ := hc.uncons
  obtain ⟨c9, _, rfl, h9, hc⟩ := hc.uncons
  obtain ⟨c10, rfl, h10⟩ := hc.one
  obtain ⟨n1, rfl, k1⟩ := h1.inv_int
  obtain ⟨n2, rfl, k2⟩ := h2.inv_int
  obtain ⟨n3, rfl, k3⟩ := h3.inv_int
  obtain ⟨n4, rfl, k4⟩ := h4.inv_int
  obtain ⟨n5, rfl, k5⟩ := h5.inv_int
  obtain ⟨n6, rfl, k6⟩ := h6.inv_int
  obtain ⟨n7, rfl, k7⟩ := h7.inv_int
  obtain ⟨n8, rfl, k8⟩ := h8.inv_int
  obtain ⟨n9, rfl, k9⟩ := h9.inv_int
  obtain ⟨nl, xs, hx⟩ := h10.inv_spans
  obtain rfl := hx.eq
  exact ⟨⟨n1, n2, n3, n4, n5, n6, n7, n8, n9, nl, xs⟩, rfl, k1, k2, k3, k4, k5, k6, k7, k8, k9, hx.len, hx.good⟩
theorem inv_stps {x : AV} (h : CellIs (.sl true stpSh) x) : ∃ nl xs, Slice eStp stpOK x nl xs := by
  refine h.inv_sl fun cs hc => ?_
  obtain ⟨s, h1, h2⟩ := inv_stp hc
  exact ⟨s, h1, h2⟩
theorem szLog_of {x : AV} {nl : Bool} {S : List Stp} (h : Slice eStp stpOK x nl S) : szLog S := by
  have := h.len
  refine ⟨by omega, fun j hj => ?_⟩
  have := (h.good _ (nth_mem hj)).2.2.2.2.2.2.2.2.2.1
  omega
end Go.Oct.Fix
