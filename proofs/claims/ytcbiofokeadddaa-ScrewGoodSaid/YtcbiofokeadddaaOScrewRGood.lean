/- ScrewGood: it answers true at all arguments of its kinds, and leaves them as they were: no conditions. -/
import Derived.Test.YtcbiofokeadddaaOScrewGood
import Derived.Test.YtcbiofokeadddaaOT3
import Derived.Test.YtcbiofokeadddaaRows
set_option maxRecDepth 100000
set_option linter.unusedVariables false
namespace Go.Proofs.Ytcbiofokeadddaa
open Go.ChangeShapes Go.WideShapes Go.ChangeAt Go.RowKit Go.Oct
theorem ScrewGood_ans (avs : List AV) (h0 : ArgsAre [(false, [.sl false [.int .i64]]), (false, [.int .i64]), (false, [.int .i64]), (false, [.int .i64])] avs) : ans Go.Oct.Screw.prog Go.Oct.Screw.O 12 avs = some (.bool true) := by
  obtain ⟨x0, xs0, rfl, hx0, h1⟩ := h0.one
  obtain ⟨nl0, l0, hs0⟩ := hx0.inv_ints
  obtain rfl := hs0.eq
  obtain ⟨x1, xs1, rfl, hx1, h2⟩ := h1.one
  obtain ⟨n1, rfl, hn1⟩ := hx1.inv_int
  obtain ⟨x2, xs2, rfl, hx2, h3⟩ := h2.one
  obtain ⟨n2, rfl, hn2⟩ := hx2.inv_int
  obtain ⟨x3, xs3, rfl, hx3, h4⟩ := h3.one
  obtain ⟨n3, rfl, hn3⟩ := hx3.inv_int
  obtain rfl := h4.nil
  exact Go.Oct.Screw.ScrewGood_ok nl0 l0 n1 n2 n3 hs0 hn1 hn2 hn3
theorem screwGood_lifted (os : Os) (started : os.Started) (H : Type) (enc : TypeId × Value → H) :
    ReturnsInHanded {} Try.checked os 12 .any (Rows.screwGoodSpec.pre6 enc Try.prog Try.f12 Rows.screwGoodRow.domain false) (Rows.screwGoodSpec.post enc Try.prog Try.f12 false true false false) := by
  refine law_lifted (p := Go.Oct.Screw.prog) (tb := 4) Try.checked Go.Oct.Screw.compP Go.Oct.Screw.fol Go.Oct.Screw.oracleOK (by kernel_rfl) (by kernel_rfl) (by kernel_rfl) Try.func12 rfl (by kernel_rfl) (by kernel_rfl) (by kernel_rfl) (shs := [(false, [.sl false [.int .i64]]), (false, [.int .i64]), (false, [.int .i64]), (false, [.int .i64])]) (by kernel_rfl) (by decide +kernel) (fun H ds hd => ?_) (fun avs σ => Go.Oct.Screw.oNone (by decide)) ScrewGood_ans os started H enc
    (ChangeSpec.witness6 (enc := enc) (C := Try.checked) false ⟨#[], #[.slice none 0 0, .int .i64 0, .int .i64 0, .int .i64 0], []⟩ 8 (by kernel_rfl) (by kernel_rfl) (by kernel_rfl) (by kernel_rfl))
  match ds, hd with
  | [d0, d1, d2, d3], _ => rfl
theorem ScrewGood_holds : Rows.ScrewGoodSaid :=
  OpenClaim.holds_of_wide 12 Try.f12 rfl rfl rfl rfl rfl rfl rfl ⟨rfl, rfl, rfl, rfl, rfl⟩ rfl rfl rfl rfl rfl (by kernel_rfl) Try.func12 (by kernel_rfl)
    (of_decide_eq_true (by kernel_rfl)) (by unfold Func.isWrapper; first | (rw [if_pos (by decide +kernel)]; kernel_rfl) | (rw [if_neg (by decide +kernel)]; exact ⟨rfl, rfl⟩))
    (fun os started H enc _ => screwGood_lifted os started H enc)
end Go.Proofs.Ytcbiofokeadddaa
