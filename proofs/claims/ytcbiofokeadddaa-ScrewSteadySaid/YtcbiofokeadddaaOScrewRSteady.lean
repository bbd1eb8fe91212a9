/- ScrewSteady: it answers true at all arguments of its kinds, and leaves them as they were: no conditions. -/
import Derived.Test.YtcbiofokeadddaaOScrewSteady
import Derived.Test.YtcbiofokeadddaaOT3
import Derived.Test.YtcbiofokeadddaaRows
set_option maxRecDepth 100000
set_option linter.unusedVariables false
namespace Go.Proofs.Ytcbiofokeadddaa
open Go.ChangeShapes Go.WideShapes Go.ChangeAt Go.RowKit Go.Oct
theorem ScrewSteady_ans (avs : List AV) (h0 : ArgsAre [(false, [.sl true [.int .i64, .int .i64]]), (false, [.sl false [.int .i64]])] avs) : ans Go.Oct.Screw.prog Go.Oct.Screw.O 13 avs = some (.bool true) := by
  obtain ⟨x0, xs0, rfl, hx0, h1⟩ := h0.one
  obtain ⟨nl0, l0, hs0⟩ := hx0.inv_spans
  obtain rfl := hs0.eq
  obtain ⟨x1, xs1, rfl, hx1, h2⟩ := h1.one
  obtain ⟨nl1, l1, hs1⟩ := hx1.inv_ints
  obtain rfl := hs1.eq
  obtain rfl := h2.nil
  exact Go.Oct.Screw.ScrewSteady_ok nl0 l0 nl1 l1 hs0 hs1
theorem screwSteady_lifted (os : Os) (started : os.Started) (H : Type) (enc : TypeId × Value → H) :
    ReturnsInHanded {} Try.checked os 13 .any (Rows.screwSteadySpec.pre6 enc Try.prog Try.f13 Rows.screwSteadyRow.domain false) (Rows.screwSteadySpec.post enc Try.prog Try.f13 false true false false) := by
  refine law_lifted (p := Go.Oct.Screw.prog) (tb := 4) Try.checked Go.Oct.Screw.compP Go.Oct.Screw.fol Go.Oct.Screw.oracleOK (by kernel_rfl) (by kernel_rfl) (by kernel_rfl) Try.func13 rfl (by kernel_rfl) (by kernel_rfl) (by kernel_rfl) (shs := [(false, [.sl true [.int .i64, .int .i64]]), (false, [.sl false [.int .i64]])]) (by kernel_rfl) (by decide +kernel) (fun H ds hd => ?_) (fun avs σ => Go.Oct.Screw.oNone (by decide)) ScrewSteady_ans os started H enc
    (ChangeSpec.witness6 (enc := enc) (C := Try.checked) false ⟨#[], #[.slice none 0 0, .slice none 0 0], []⟩ 8 (by kernel_rfl) (by kernel_rfl) (by kernel_rfl) (by kernel_rfl))
  match ds, hd with
  | [d0, d1], _ => rfl
theorem ScrewSteady_holds : Rows.ScrewSteadySaid :=
  OpenClaim.holds_of_wide 13 Try.f13 rfl rfl rfl rfl rfl rfl rfl ⟨rfl, rfl, rfl, rfl, rfl⟩ rfl rfl rfl rfl rfl (by kernel_rfl) Try.func13 (by kernel_rfl)
    (of_decide_eq_true (by kernel_rfl)) (by unfold Func.isWrapper; first | (rw [if_pos (by decide +kernel)]; kernel_rfl) | (rw [if_neg (by decide +kernel)]; exact ⟨rfl, rfl⟩))
    (fun os started H enc _ => screwSteady_lifted os started H enc)
end Go.Proofs.Ytcbiofokeadddaa
