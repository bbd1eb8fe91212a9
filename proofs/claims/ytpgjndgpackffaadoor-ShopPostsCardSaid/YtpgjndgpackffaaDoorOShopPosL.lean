/- The law of the posts. -/
import Derived.Test.YtpgjndgpackffaaDoorOShopPosC
import Derived.Test.YtpgjndgpackffaaDoorOT3
set_option maxRecDepth 100000
set_option maxHeartbeats 1000000
set_option linter.unusedVariables false
set_option linter.unusedSimpArgs false
namespace Go.Oct.Shop
open Go.Oct
theorem postL_len (M : List Mn) (T : List Int) : (postL M T).length ≤ 8 := by
  unfold postL
  split
  · rename_i h
    exact (spec_bd h (d := T.length) (so := []) (by simp)).2.2
  · simp
theorem lackL_len (M : List Mn) (T : List Int) : (lackL M T).length ≤ T.length := by
  unfold lackL
  split
  · exact lackF_len (2 ^ T.length)
  · simp
theorem ShopPosts_ok (nM : Bool) (M : List Mn) (nT : Bool) (T : List Int) (hM : M.length < 2 ^ 62) (hT : T.length < 2 ^ 62) : ans prog O 6 [vl eMn nM M, vs nT T] = some (.bool true) := by
  obtain ⟨_, ⟨n1, rfl⟩, h1⟩ := Posts_ok nM nT M T hM hT
  obtain ⟨_, ⟨n2, rfl⟩, h2⟩ := PostsR_ok nM nT M T hM hT
  have h3 := Lack_ok nM nT M T hM hT
  have h4 := LackR_ok nM nT M T hM hT
  have a1 := postL_len M T
  have a2 := lackL_len M T
  have s1 := Same_ok n1 n2 (postL M T) (postL M T) (by omega)
  have s2 := Same_ok (lackL M T).isEmpty (lackL M T).isEmpty (lackL M T) (lackL M T) (by omega)
  simp only [decide_true] at s1 s2
  generalize postL M T = A at *
  generalize lackL M T = B at *
  generalize postW M T = w at *
  generalize postE M T = e at *
  generalize lackE M T = f at *
  refine fn_of' pl get6 (oo (by decide)) rfl rfl ?_
  simp (disch := omega) [h1, h2, h3, h4, s1, s2]
def mnOK (x : Mn) : Prop := i64 x.sk ∧ i64 x.wg
theorem inv_mns {x : AV} (h : CellIs (.sl true [.int .i64, .int .i64]) x) : ∃ nl xs, Slice eMn mnOK x nl xs := by
  refine h.inv_sl fun cs hc => ?_
  obtain ⟨c, _, rfl, h, hc⟩ := hc.uncons
  obtain ⟨d, rfl, h'⟩ := hc.one
  obtain ⟨n, rfl, hn⟩ := h.inv_int
  obtain ⟨m, rfl, hm⟩ := h'.inv_int
  exact ⟨⟨n, m⟩, rfl, hn, hm⟩
end Go.Oct.Shop
