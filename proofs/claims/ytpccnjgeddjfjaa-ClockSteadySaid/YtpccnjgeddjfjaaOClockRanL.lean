/- ClockRanks: the law, and what its row asks. -/
import Derived.Test.YtpccnjgeddjfjaaOClockRnkR
set_option maxRecDepth 100000
set_option maxHeartbeats 4000000
set_option linter.unusedVariables false
set_option linter.unusedSimpArgs false
namespace Go.Oct.Clock
open Go.Oct
def entOK (e : Ent) : Prop := e.weeks.length < 140737488355328 ∧ e.name.size < 140737488355328 ∧ ∀ n ∈ e.weeks, i64 n
theorem inv_ents {x : AV} (h : CellIs (.sl true [.str, .sl false [.int .i64]]) x) : ∃ nl xs, Slice eEnt entOK x nl xs := by
  refine h.inv_sl fun cs hc => ?_
  obtain ⟨c, _, rfl, h, hc⟩ := hc.uncons
  obtain ⟨d, rfl, h'⟩ := hc.one
  obtain ⟨s, rfl, hs⟩ := h.inv_str
  obtain ⟨nl, xs, hx⟩ := h'.inv_ints
  obtain rfl := hx.eq
  exact ⟨⟨s, nl, xs⟩, rfl, hx.len, hs, hx.good⟩
theorem fits_of {x : AV} {nl : Bool} {l : List Ent} (h : Slice eEnt entOK x nl l) : fits l := by
  have := h.len
  refine ⟨by omega, fun i hi => ?_⟩
  have := (h.good _ (nth_mem hi)).1
  omega
theorem rankV_len (l : List Ent) (hf : fits l) : (rankV l).1.length < 2 ^ 62 ∧ (rankV l).2.1.length < 2 ^ 62 := by
  have := hf.1
  unfold rankV
  split
  · simp only [List.length_map, ordR_len, nums_len]
    exact ⟨this, this⟩
  · simp
end Go.Oct.Clock
