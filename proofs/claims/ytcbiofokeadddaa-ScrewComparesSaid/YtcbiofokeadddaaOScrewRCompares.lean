/- ScrewCompares: it answers true at all arguments of its kinds, and leaves them as they were: no conditions. -/
import Derived.Test.YtcbiofokeadddaaOScrewCmpW
import Derived.Test.YtcbiofokeadddaaOT3
import Derived.Test.YtcbiofokeadddaaRows
set_option maxRecDepth 100000
set_option linter.unusedVariables false
namespace Go.Proofs.Ytcbiofokeadddaa
open Go.ChangeShapes Go.WideShapes Go.ChangeAt Go.RowKit Go.Oct
theorem ScrewCompares_ans (avs : List AV) (h0 : ArgsAre [(true, [.sl false [.int .i64], .int .i64]), (false, [.sl true [.int .i64, .int .i64, .int .i64, .int .i64, .int .i64, .int .i64]]), (false, [.sl false [.sl false [.int .i64]]])] avs) : ans Go.Oct.Screw.prog Go.Oct.Screw.O 4 avs = some (.bool true) := by
  obtain ⟨x0, xs0, rfl, hx0, h1⟩ := h0.agg
  obtain ⟨c0, r0, rfl, hc0, hr0⟩ := hx0.uncons
  obtain ⟨d0, rfl, hd0⟩ := hr0.one
  obtain ⟨nl0, l0, hs0⟩ := hc0.inv_ints
  obtain rfl := hs0.eq
  obtain ⟨n0, rfl, hn0⟩ := hd0.inv_int
  obtain ⟨x1, xs1, rfl, hx1, h2⟩ := h1.one
  obtain ⟨nl1, l1, hs1⟩ := Go.Oct.Screw.inv_reads hx1
  obtain rfl := hs1.eq
  obtain ⟨x2, xs2, rfl, hx2, h3⟩ := h2.one
  obtain ⟨nl2, l2, hs2⟩ := hx2.inv_rows
  obtain rfl := hs2.eq
  obtain rfl := h3.nil
  exact Go.Oct.Screw.ScrewCompares_ok nl0 l0 n0 nl1 l1 nl2 l2 hs0 hn0 hs1 hs2
theorem screwCompares_lifted (os : Os) (started : os.Started) (H : Type) (enc : TypeId × Value → H) :
    ReturnsInHanded {} Try.checked os 4 .any (Rows.screwComparesSpec.pre6 enc Try.prog Try.f4 Rows.screwComparesRow.domain false) (Rows.screwComparesSpec.post enc Try.prog Try.f4 false true false false) := by
  refine law_lifted (p := Go.Oct.Screw.prog) (tb := 4) Try.checked Go.Oct.Screw.compP Go.Oct.Screw.fol Go.Oct.Screw.oracleOK (by kernel_rfl) (by kernel_rfl) (by kernel_rfl) Try.func4 rfl (by kernel_rfl) (by kernel_rfl) (by kernel_rfl) (shs := [(true, [.sl false [.int .i64], .int .i64]), (false, [.sl true [.int .i64, .int .i64, .int .i64, .int .i64, .int .i64, .int .i64]]), (false, [.sl false [.sl false [.int .i64]]])]) (by kernel_rfl) (by decide +kernel) (fun H ds hd => ?_) (fun avs σ => Go.Oct.Screw.oNone (by decide)) ScrewCompares_ans os started H enc
    (ChangeSpec.witness6 (enc := enc) (C := Try.checked) false ⟨#[], #[.agg #[.slice none 0 0, .int .i64 0], .slice none 0 0, .slice none 0 0], []⟩ 8 (by kernel_rfl) (by kernel_rfl) (by kernel_rfl) (by kernel_rfl))
  match ds, hd with
  | [d0, d1, d2], _ => rfl
theorem ScrewCompares_holds : Rows.ScrewComparesSaid :=
  OpenClaim.holds_of_wide 4 Try.f4 rfl rfl rfl rfl rfl rfl rfl ⟨rfl, rfl, rfl, rfl, rfl⟩ rfl rfl rfl rfl rfl (by kernel_rfl) Try.func4 (by kernel_rfl)
    (of_decide_eq_true (by kernel_rfl)) (by unfold Func.isWrapper; first | (rw [if_pos (by decide +kernel)]; kernel_rfl) | (rw [if_neg (by decide +kernel)]; exact ⟨rfl, rfl⟩))
    (fun os started H enc _ => screwCompares_lifted os started H enc)
end Go.Proofs.Ytcbiofokeadddaa
