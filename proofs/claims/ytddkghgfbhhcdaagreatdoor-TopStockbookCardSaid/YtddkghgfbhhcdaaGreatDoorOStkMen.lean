/- Men: how many journeymen some days take. -/
import Derived.Test.YtddkghgfbhhcdaaGreatDoorOStkOrd
import Derived.Test.YtddkghgfbhhcdaaGreatDoorOT3
set_option maxRecDepth 100000
set_option maxHeartbeats 4000000
set_option linter.unusedVariables false
set_option linter.unusedSimpArgs false
namespace Go.Oct.Stk.Sh
open Go.Oct
/-- So many journeymen suffice, and the level proves that no fewer do. -/
structure MenAt (l : List Pc) (days m j : Int) : Prop where
  lo : 1 ≤ m
  hi : m ≤ 12
  suf : (lst l m).1 ≤ days
  few : ∀ q, 1 ≤ q → q < m → days < (lst l q).1
  one : m = 1 → j = 0
  lv : m ≠ 1 → 0 ≤ j ∧ j < height l ∧ days < bnd l (m - 1) j ∧ ∀ i, 0 ≤ i → i < j → bnd l (m - 1) i ≤ days
/-- What Men tells. -/
inductive MenV (l : List Pc) (days : Int) : Int → Int → Int → Prop
  | bad (h : ¬ okOrd l) : MenV l days 0 0 100
  | days (h : okOrd l) (hd : ¬ (1 ≤ days ∧ days ≤ 12)) : MenV l days 0 0 101
  | none (h : okOrd l) (hd : 1 ≤ days ∧ days ≤ 12) (hh : days < height l) : MenV l days 0 0 4
  | some (h : okOrd l) (hd : 1 ≤ days ∧ days ≤ 12) (hh : (height l : Int) ≤ days) (m j : Int) (hm : MenAt l days m j) : MenV l days m j 0
def pcOK (x : Pc) : Prop := i64 x.into ∧ i64 x.br ∧ i64 x.iv
theorem inv_pcs {x : AV} (h : CellIs (.sl true [.int .i64, .int .i64, .int .i64]) x) : ∃ nl xs, Slice ePc pcOK x nl xs := by
  refine h.inv_sl fun cs hc => ?_
  obtain ⟨c, _, rfl, h, hc⟩ := hc.uncons
  obtain ⟨d, _, rfl, h', hc⟩ := hc.uncons
  obtain ⟨e, rfl, h''⟩ := hc.one
  obtain ⟨n, rfl, hn⟩ := h.inv_int
  obtain ⟨m, rfl, hm⟩ := h'.inv_int
  obtain ⟨k, rfl, hk⟩ := h''.inv_int
  exact ⟨⟨n, m, k⟩, rfl, hn, hm, hk⟩
end Go.Oct.Stk.Sh
