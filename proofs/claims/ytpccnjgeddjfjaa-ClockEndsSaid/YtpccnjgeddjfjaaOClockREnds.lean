/- ClockEnds: it answers true at all arguments of its kinds, and leaves them as they were: no conditions. -/
import Derived.Test.YtpccnjgeddjfjaaOClockEndW
import Derived.Test.YtpccnjgeddjfjaaOT3
import Derived.Test.YtpccnjgeddjfjaaRows
set_option maxRecDepth 100000
set_option linter.unusedVariables false
namespace Go.Proofs.Ytpccnjgeddjfjaa
open Go.ChangeShapes Go.WideShapes Go.ChangeAt Go.RowKit Go.Oct
theorem ClockEnds_ans (avs : List AV) (h0 : ArgsAre [(true, [.sl false [.int .i64], .sl true [.int .i64, .int .i64], .int .i64, .int .i64, .int .i64, .int .i64]), (false, [.sl true [.int .i64, .int .i64]])] avs) : ans Go.Oct.Clock.prog Go.Oct.Clock.O 8 avs = some (.bool true) := by
  obtain ⟨x0, xs0, rfl, hx0, h1⟩ := h0.agg
  obtain ⟨c0, r0, rfl, hc0, hr0⟩ := hx0.uncons
  obtain ⟨d0, s0, rfl, hd0, ht0⟩ := hr0.uncons
  obtain ⟨e0, t0, rfl, he0, hu0⟩ := ht0.uncons
  obtain ⟨f0, u0, rfl, hf0, hv0⟩ := hu0.uncons
  obtain ⟨g0, v0, rfl, hg0, hw0⟩ := hv0.uncons
  obtain ⟨k0, rfl, hk0⟩ := hw0.one
  obtain ⟨nl0, l0, hs0⟩ := hc0.inv_ints
  obtain rfl := hs0.eq
  obtain ⟨nm0, m0, hp0⟩ := hd0.inv_spans
  obtain rfl := hp0.eq
  obtain ⟨p0, rfl, hpp0⟩ := he0.inv_int
  obtain ⟨q0, rfl, hq0⟩ := hf0.inv_int
  obtain ⟨y0, rfl, hy0⟩ := hg0.inv_int
  obtain ⟨z0, rfl, hz0⟩ := hk0.inv_int
  obtain ⟨x1, xs1, rfl, hx1, h2⟩ := h1.one
  obtain ⟨nl1, l1, hs1⟩ := hx1.inv_spans
  obtain rfl := hs1.eq
  obtain rfl := h2.nil
  exact Go.Oct.Clock.ClockEnds_ok nl0 nm0 l0 m0 ⟨p0, q0⟩ ⟨y0, z0⟩ nl1 l1 hs0 hp0 hs1
theorem clockEnds_lifted (os : Os) (started : os.Started) (H : Type) (enc : TypeId × Value → H) :
    ReturnsInHanded {} Try.checked os 8 .any (Rows.clockEndsSpec.pre6 enc Try.prog Try.f8 Rows.clockEndsRow.domain false) (Rows.clockEndsSpec.post enc Try.prog Try.f8 false true false false) := by
  refine law_lifted (p := Go.Oct.Clock.prog) (tb := 4) Try.checked Go.Oct.Clock.compP Go.Oct.Clock.fol Go.Oct.Clock.oracleOK (by kernel_rfl) (by kernel_rfl) (by kernel_rfl) Try.func8 rfl (by kernel_rfl) (by kernel_rfl) (by kernel_rfl) (shs := [(true, [.sl false [.int .i64], .sl true [.int .i64, .int .i64], .int .i64, .int .i64, .int .i64, .int .i64]), (false, [.sl true [.int .i64, .int .i64]])]) (by kernel_rfl) (by decide +kernel) (fun H ds hd => ?_) (fun avs σ => Go.Oct.Clock.oNone (by decide)) ClockEnds_ans os started H enc
    (ChangeSpec.witness6 (enc := enc) (C := Try.checked) false ⟨#[], #[.agg #[.slice none 0 0, .slice none 0 0, .int .i64 0, .int .i64 0, .int .i64 0, .int .i64 0], .slice none 0 0], []⟩ 8 (by kernel_rfl) (by kernel_rfl) (by kernel_rfl) (by kernel_rfl))
  match ds, hd with
  | [d0, d1], _ => rfl
theorem ClockEnds_holds : Rows.ClockEndsSaid :=
  OpenClaim.holds_of_wide 8 Try.f8 rfl rfl rfl rfl rfl rfl rfl ⟨rfl, rfl, rfl, rfl, rfl⟩ rfl rfl rfl rfl rfl (by kernel_rfl) Try.func8 (by kernel_rfl)
    (of_decide_eq_true (by kernel_rfl)) (by unfold Func.isWrapper; first | (rw [if_pos (by decide +kernel)]; kernel_rfl) | (rw [if_neg (by decide +kernel)]; exact ⟨rfl, rfl⟩))
    (fun os started H enc _ => clockEnds_lifted os started H enc)
end Go.Proofs.Ytpccnjgeddjfjaa
