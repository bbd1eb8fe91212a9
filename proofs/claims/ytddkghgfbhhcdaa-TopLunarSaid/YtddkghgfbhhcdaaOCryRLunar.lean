/- TopLunar: it answers true at all arguments of its kinds, and leaves them as they were: no conditions. -/
import Derived.Test.YtddkghgfbhhcdaaOCryLunL
import Derived.Test.YtddkghgfbhhcdaaOT3
import Derived.Test.YtddkghgfbhhcdaaRows
set_option maxRecDepth 100000
set_option linter.unusedVariables false
namespace Go.Proofs.Ytddkghgfbhhcdaa
open Go.ChangeShapes Go.WideShapes Go.ChangeAt Go.RowKit Go.Oct
theorem TopLunar_ans (avs : List AV) (h0 : ArgsAre [(true, [.int .i64, .sl true [.int .i64, .int .i64], .int .i64, .int .i64, .int .i64, .sl true [.int .i64, .int .i64], .int .i64, .int .i64, .int .i64, .int .i64, .int .i64, .int .i64, .int .i64, .int .i64, .int .i64, .int .i64]), (false, [.sl true [.int .i64, .int .i64]]), (false, [.sl true [.int .i64, .int .i64, .int .i64]]), (true, [.int .i64, .int .i64])] avs) : ans Go.Oct.Cry.prog Go.Oct.Cry.O 6 avs = some (.bool true) := by
  obtain ⟨x0, xs0, rfl, hx0, h1⟩ := h0.agg
  obtain ⟨c0_0, r0_0, rfl, hc0_0, hr0_0⟩ := hx0.uncons
  obtain ⟨c0_1, r0_1, rfl, hc0_1, hr0_1⟩ := hr0_0.uncons
  obtain ⟨c0_2, r0_2, rfl, hc0_2, hr0_2⟩ := hr0_1.uncons
  obtain ⟨c0_3, r0_3, rfl, hc0_3, hr0_3⟩ := hr0_2.uncons
  obtain ⟨c0_4, r0_4, rfl, hc0_4, hr0_4⟩ := hr0_3.uncons
  obtain ⟨c0_5, r0_5, rfl, hc0_5, hr0_5⟩ := hr0_4.uncons
  obtain ⟨c0_6, r0_6, rfl, hc0_6, hr0_6⟩ := hr0_5.uncons
  obtain ⟨c0_7, r0_7, rfl, hc0_7, hr0_7⟩ := hr0_6.uncons
  obtain ⟨c0_8, r0_8, rfl, hc0_8, hr0_8⟩ := hr0_7.uncons
  obtain ⟨c0_9, r0_9, rfl, hc0_9, hr0_9⟩ := hr0_8.uncons
  obtain ⟨c0_10, r0_10, rfl, hc0_10, hr0_10⟩ := hr0_9.uncons
  obtain ⟨c0_11, r0_11, rfl, hc0_11, hr0_11⟩ := hr0_10.uncons
  obtain ⟨c0_12, r0_12, rfl, hc0_12, hr0_12⟩ := hr0_11.uncons
  obtain ⟨c0_13, r0_13, rfl, hc0_13, hr0_13⟩ := hr0_12.uncons
  obtain ⟨c0_14, r0_14, rfl, hc0_14, hr0_14⟩ := hr0_13.uncons
  obtain ⟨c0_15, rfl, hc0_15⟩ := hr0_14.one
  obtain ⟨n0_0, rfl, hn0_0⟩ := hc0_0.inv_int
  obtain ⟨nl0_1, l0_1, hs0_1⟩ := hc0_1.inv_spans
  obtain rfl := hs0_1.eq
  obtain ⟨n0_2, rfl, hn0_2⟩ := hc0_2.inv_int
  obtain ⟨n0_3, rfl, hn0_3⟩ := hc0_3.inv_int
  obtain ⟨n0_4, rfl, hn0_4⟩ := hc0_4.inv_int
  obtain ⟨nl0_5, l0_5, hs0_5⟩ := hc0_5.inv_spans
  obtain rfl := hs0_5.eq
  obtain ⟨n0_6, rfl, hn0_6⟩ := hc0_6.inv_int
  obtain ⟨n0_7, rfl, hn0_7⟩ := hc0_7.inv_int
  obtain ⟨n0_8, rfl, hn0_8⟩ := hc0_8.inv_int
  obtain ⟨n0_9, rfl, hn0_9⟩ := hc0_9.inv_int
  obtain ⟨n0_10, rfl, hn0_10⟩ := hc0_10.inv_int
  obtain ⟨n0_11, rfl, hn0_11⟩ := hc0_11.inv_int
  obtain ⟨n0_12, rfl, hn0_12⟩ := hc0_12.inv_int
  obtain ⟨n0_13, rfl, hn0_13⟩ := hc0_13.inv_int
  obtain ⟨n0_14, rfl, hn0_14⟩ := hc0_14.inv_int
  obtain ⟨n0_15, rfl, hn0_15⟩ := hc0_15.inv_int
  obtain ⟨x1, xs1, rfl, hx1, h2⟩ := h1.one
  obtain ⟨nl1, l1, hs1⟩ := hx1.inv_spans
  obtain rfl := hs1.eq
  obtain ⟨x2, xs2, rfl, hx2, h3⟩ := h2.one
  obtain ⟨nl2, l2, hs2⟩ := Go.Oct.Cry.inv_trs hx2
  obtain rfl := hs2.eq
  obtain ⟨x3, xs3, rfl, hx3, h4⟩ := h3.agg
  obtain ⟨c3, r3, rfl, hc3, hr3⟩ := hx3.uncons
  obtain ⟨d3, rfl, hd3⟩ := hr3.one
  obtain ⟨n3, rfl, hn3⟩ := hc3.inv_int
  obtain ⟨m3, rfl, hm3⟩ := hd3.inv_int
  obtain rfl := h4.nil
  exact Go.Oct.Cry.TopLunar_ok n0_0 nl0_1 l0_1 n0_2 n0_3 n0_4 nl0_5 l0_5 n0_6 n0_7 n0_8 n0_9 n0_10 n0_11 n0_12 n0_13 n0_14 n0_15 nl1 l1 nl2 l2 n3 m3 hs0_1 hs0_5 hs1 hs2 hn3 hm3
theorem topLunar_lifted (os : Os) (started : os.Started) (H : Type) (enc : TypeId × Value → H) :
    ReturnsInHanded {} Try.checked os 6 .any (Rows.topLunarSpec.pre6 enc Try.prog Try.f6 Rows.topLunarRow.domain false) (Rows.topLunarSpec.post enc Try.prog Try.f6 false true false false) := by
  refine law_lifted (p := Go.Oct.Cry.prog) (tb := 4) Try.checked Go.Oct.Cry.compP Go.Oct.Cry.fol Go.Oct.Cry.oracleOK (by kernel_rfl) (by kernel_rfl) (by kernel_rfl) Try.func6 rfl (by kernel_rfl) (by kernel_rfl) (by kernel_rfl) (shs := [(true, [.int .i64, .sl true [.int .i64, .int .i64], .int .i64, .int .i64, .int .i64, .sl true [.int .i64, .int .i64], .int .i64, .int .i64, .int .i64, .int .i64, .int .i64, .int .i64, .int .i64, .int .i64, .int .i64, .int .i64]), (false, [.sl true [.int .i64, .int .i64]]), (false, [.sl true [.int .i64, .int .i64, .int .i64]]), (true, [.int .i64, .int .i64])]) (by kernel_rfl) (by decide +kernel) (fun H ds hd => ?_) (fun avs σ => Go.Oct.Cry.oNone (by decide)) TopLunar_ans os started H enc
    (ChangeSpec.witness6 (enc := enc) (C := Try.checked) false ⟨#[], #[.agg #[.int .i64 0, .slice none 0 0, .int .i64 0, .int .i64 0, .int .i64 0, .slice none 0 0, .int .i64 0, .int .i64 0, .int .i64 0, .int .i64 0, .int .i64 0, .int .i64 0, .int .i64 0, .int .i64 0, .int .i64 0, .int .i64 0], .slice none 0 0, .slice none 0 0, .agg #[.int .i64 0, .int .i64 0]], []⟩ 8 (by kernel_rfl) (by kernel_rfl) (by kernel_rfl) (by kernel_rfl))
  match ds, hd with
  | [d0, d1, d2, d3], _ => rfl
theorem TopLunar_holds : Rows.TopLunarSaid :=
  OpenClaim.holds_of_wide 6 Try.f6 rfl rfl rfl rfl rfl rfl rfl ⟨rfl, rfl, rfl, rfl, rfl⟩ rfl rfl rfl rfl rfl (by kernel_rfl) Try.func6 (by kernel_rfl)
    (of_decide_eq_true (by kernel_rfl)) (by unfold Func.isWrapper; first | (rw [if_pos (by decide +kernel)]; kernel_rfl) | (rw [if_neg (by decide +kernel)]; exact ⟨rfl, rfl⟩))
    (fun os started H enc _ => topLunar_lifted os started H enc)
end Go.Proofs.Ytddkghgfbhhcdaa
