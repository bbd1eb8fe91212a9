/- The law of the posts. -/
import Derived.Test.YtpgjndgpackffaaDoorOShopPosC
import Derived.Test.YtpgjndgpackffaaDoorOT3
set_option maxRecDepth 100000
set_option maxHeartbeats 1000000
set_option linter.unusedVariables false
set_option linter.unusedSimpArgs false
namespace Go.Oct.Shop
open Go.Oct
theorem postL_len (M : List Mn) (T : List Int) : (postL M T).length ≤ 8 := by
  unfold postL
  split
  · rename_i h
    exact (spec_bd h (d := T.length) (so := []) (by simp)).2.2
  · simp
theorem lackL_len (M : List Mn) (T : List Int) : (lackL M T).length ≤ T.length := by
  unfold lackL
  split
  · exact lackF_len (2 ^ T.length)
  · simp
def mnOK (x : Mn) : Prop := i64 x.sk ∧ i64 x.wg
theorem inv_mns {x : AV} (h : CellIs (.sl true [.int .i64, .int .i64]) x) : ∃ nl xs, Slice eMn mnOK x nl xs := by
  refine h.inv_sl fun cs hc => ?_
  obtain ⟨c, _, rfl, h, hc⟩ := hc.uncons
  obtain ⟨d, rfl, h'⟩ := hc.one
  obtain ⟨n, rfl, hn⟩ := h.inv_int
  obtain ⟨m, rfl, hm⟩ := h'.inv_int
  exact ⟨⟨n, m⟩, rfl, hn, hm⟩
end Go.Oct.Shop
