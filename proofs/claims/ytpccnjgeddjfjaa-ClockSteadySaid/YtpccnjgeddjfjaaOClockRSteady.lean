/- ClockSteady: it answers true at all arguments of its kinds, and leaves them as they were: no conditions. -/
import Derived.Test.YtpccnjgeddjfjaaOClockSteW
import Derived.Test.YtpccnjgeddjfjaaOT3
import Derived.Test.YtpccnjgeddjfjaaRows
set_option maxRecDepth 100000
set_option linter.unusedVariables false
namespace Go.Proofs.Ytpccnjgeddjfjaa
open Go.ChangeShapes Go.WideShapes Go.ChangeAt Go.RowKit Go.Oct
theorem ClockSteady_ans (avs : List AV) (h0 : ArgsAre [(false, [.sl true [.str, .sl false [.int .i64]]]), (false, [.int .i64])] avs) : ans Go.Oct.Clock.prog Go.Oct.Clock.O 11 avs = some (.bool true) := by
  obtain ⟨x0, xs0, rfl, hx0, h1⟩ := h0.one
  obtain ⟨nl0, l0, hs0⟩ := Go.Oct.Clock.inv_ents hx0
  obtain rfl := hs0.eq
  obtain ⟨x1, xs1, rfl, hx1, h2⟩ := h1.one
  obtain ⟨n1, rfl, hn1⟩ := hx1.inv_int
  obtain rfl := h2.nil
  exact Go.Oct.Clock.ClockSteady_ok nl0 l0 n1 hs0 hn1
theorem clockSteady_lifted (os : Os) (started : os.Started) (H : Type) (enc : TypeId × Value → H) :
    ReturnsInHanded {} Try.checked os 11 .any (Rows.clockSteadySpec.pre6 enc Try.prog Try.f11 Rows.clockSteadyRow.domain false) (Rows.clockSteadySpec.post enc Try.prog Try.f11 false true false false) := by
  refine law_lifted (p := Go.Oct.Clock.prog) (tb := 4) Try.checked Go.Oct.Clock.compP Go.Oct.Clock.fol Go.Oct.Clock.oracleOK (by kernel_rfl) (by kernel_rfl) (by kernel_rfl) Try.func11 rfl (by kernel_rfl) (by kernel_rfl) (by kernel_rfl) (shs := [(false, [.sl true [.str, .sl false [.int .i64]]]), (false, [.int .i64])]) (by kernel_rfl) (by decide +kernel) (fun H ds hd => ?_) (fun avs σ => Go.Oct.Clock.oNone (by decide)) ClockSteady_ans os started H enc
    (ChangeSpec.witness6 (enc := enc) (C := Try.checked) false ⟨#[], #[.slice none 0 0, .int .i64 0], []⟩ 8 (by kernel_rfl) (by kernel_rfl) (by kernel_rfl) (by kernel_rfl))
  match ds, hd with
  | [d0, d1], _ => rfl
theorem ClockSteady_holds : Rows.ClockSteadySaid :=
  OpenClaim.holds_of_wide 11 Try.f11 rfl rfl rfl rfl rfl rfl rfl ⟨rfl, rfl, rfl, rfl, rfl⟩ rfl rfl rfl rfl rfl (by kernel_rfl) Try.func11 (by kernel_rfl)
    (of_decide_eq_true (by kernel_rfl)) (by unfold Func.isWrapper; first | (rw [if_pos (by decide +kernel)]; kernel_rfl) | (rw [if_neg (by decide +kernel)]; exact ⟨rfl, rfl⟩))
    (fun os started H enc _ => clockSteady_lifted os started H enc)
end Go.Proofs.Ytpccnjgeddjfjaa
