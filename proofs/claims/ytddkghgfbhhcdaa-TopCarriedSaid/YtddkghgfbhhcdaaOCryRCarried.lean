/- TopCarried: it answers true at all arguments of its kinds, and leaves them as they were: no conditions. -/
import Derived.Test.YtddkghgfbhhcdaaOCryCryL
import Derived.Test.YtddkghgfbhhcdaaOT3
import Derived.Test.YtddkghgfbhhcdaaRows
set_option maxRecDepth 100000
set_option linter.unusedVariables false
namespace Go.Proofs.Ytddkghgfbhhcdaa
open Go.ChangeShapes Go.WideShapes Go.ChangeAt Go.RowKit Go.Oct
theorem TopCarried_ans (avs : List AV) (h0 : ArgsAre [(true, [.sl false [.int .i64], .sl true [.int .i64, .int .i64], .int .i64, .int .i64, .int .i64, .int .i64]), (false, [.sl true [.int .i64, .int .i64]]), (false, [.sl false [.int .i64]])] avs) : ans Go.Oct.Cry.prog Go.Oct.Cry.O 5 avs = some (.bool true) := by
  obtain ⟨x0, xs0, rfl, hx0, h1⟩ := h0.agg
  obtain ⟨c0, r0, rfl, hc0, hr0⟩ := hx0.uncons
  obtain ⟨d0, s0, rfl, hd0, ht0⟩ := hr0.uncons
  obtain ⟨e0, t0, rfl, he0, hu0⟩ := ht0.uncons
  obtain ⟨f0, u0, rfl, hf0, hv0⟩ := hu0.uncons
  obtain ⟨g0, v0, rfl, hg0, hw0⟩ := hv0.uncons
  obtain ⟨k0, rfl, hk0⟩ := hw0.one
  obtain ⟨nl0, l0, hs0⟩ := hc0.inv_ints
  obtain rfl := hs0.eq
  obtain ⟨nm0, m0, hp0⟩ := hd0.inv_spans
  obtain rfl := hp0.eq
  obtain ⟨p0, rfl, hpp0⟩ := he0.inv_int
  obtain ⟨q0, rfl, hq0⟩ := hf0.inv_int
  obtain ⟨y0, rfl, hy0⟩ := hg0.inv_int
  obtain ⟨z0, rfl, hz0⟩ := hk0.inv_int
  obtain ⟨x1, xs1, rfl, hx1, h2⟩ := h1.one
  obtain ⟨nl1, l1, hs1⟩ := hx1.inv_spans
  obtain rfl := hs1.eq
  obtain ⟨x2, xs2, rfl, hx2, h3⟩ := h2.one
  obtain ⟨nl2, l2, hs2⟩ := hx2.inv_ints
  obtain rfl := hs2.eq
  obtain rfl := h3.nil
  exact Go.Oct.Cry.TopCarried_ok nl0 nm0 l0 m0 ⟨p0, q0⟩ ⟨y0, z0⟩ nl1 l1 nl2 l2 hs0 hp0 hs1 hs2
theorem topCarried_lifted (os : Os) (started : os.Started) (H : Type) (enc : TypeId × Value → H) :
    ReturnsInHanded {} Try.checked os 5 .any (Rows.topCarriedSpec.pre6 enc Try.prog Try.f5 Rows.topCarriedRow.domain false) (Rows.topCarriedSpec.post enc Try.prog Try.f5 false true false false) := by
  refine law_lifted (p := Go.Oct.Cry.prog) (tb := 4) Try.checked Go.Oct.Cry.compP Go.Oct.Cry.fol Go.Oct.Cry.oracleOK (by kernel_rfl) (by kernel_rfl) (by kernel_rfl) Try.func5 rfl (by kernel_rfl) (by kernel_rfl) (by kernel_rfl) (shs := [(true, [.sl false [.int .i64], .sl true [.int .i64, .int .i64], .int .i64, .int .i64, .int .i64, .int .i64]), (false, [.sl true [.int .i64, .int .i64]]), (false, [.sl false [.int .i64]])]) (by kernel_rfl) (by decide +kernel) (fun H ds hd => ?_) (fun avs σ => Go.Oct.Cry.oNone (by decide)) TopCarried_ans os started H enc
    (ChangeSpec.witness6 (enc := enc) (C := Try.checked) false ⟨#[], #[.agg #[.slice none 0 0, .slice none 0 0, .int .i64 0, .int .i64 0, .int .i64 0, .int .i64 0], .slice none 0 0, .slice none 0 0], []⟩ 8 (by kernel_rfl) (by kernel_rfl) (by kernel_rfl) (by kernel_rfl))
  match ds, hd with
  | [d0, d1, d2], _ => rfl
theorem TopCarried_holds : Rows.TopCarriedSaid :=
  OpenClaim.holds_of_wide 5 Try.f5 rfl rfl rfl rfl rfl rfl rfl ⟨rfl, rfl, rfl, rfl, rfl⟩ rfl rfl rfl rfl rfl (by kernel_rfl) Try.func5 (by kernel_rfl)
    (of_decide_eq_true (by kernel_rfl)) (by unfold Func.isWrapper; first | (rw [if_pos (by decide +kernel)]; kernel_rfl) | (rw [if_neg (by decide +kernel)]; exact ⟨rfl, rfl⟩))
    (fun os started H enc _ => topCarried_lifted os started H enc)
end Go.Proofs.Ytddkghgfbhhcdaa
