/- RoundsCloses: it answers true at all arguments of its kinds, and leaves them as they were: no conditions. -/
import Derived.Test.YtcnemenlbbickaaORoundsCloL
import Derived.Test.YtcnemenlbbickaaOT3
import Derived.Test.YtcnemenlbbickaaRows
set_option maxRecDepth 100000
set_option linter.unusedVariables false
namespace Go.Proofs.Ytcnemenlbbickaa
open Go.ChangeShapes Go.WideShapes Go.ChangeAt Go.RowKit Go.Oct
theorem RoundsCloses_ans (avs : List AV) (h0 : ArgsAre [(true, [.int .i64, .sl false [.bool], .sl true [.int .i64, .int .i64, .int .i64, .int .i64]]), (false, [.sl false [.int .i64]])] avs) : ans Go.Oct.Rounds.prog Go.Oct.Rounds.O 10 avs = some (.bool true) := by
  obtain ⟨x0, xs0, rfl, hx0, h1⟩ := h0.agg
  obtain ⟨c0, r0, rfl, hc0, hr0⟩ := hx0.uncons
  obtain ⟨d0, s0, rfl, hd0, hs0⟩ := hr0.uncons
  obtain ⟨e0, rfl, he0⟩ := hs0.one
  obtain ⟨n0, rfl, hn0⟩ := hc0.inv_int
  obtain ⟨nC0, C0, hC0⟩ := Go.Oct.Rounds.inv_bools hd0
  obtain rfl := hC0.eq
  obtain ⟨nA0, A0, hA0⟩ := Go.Oct.Rounds.inv_ans he0
  obtain rfl := hA0.eq
  obtain ⟨x1, xs1, rfl, hx1, h2⟩ := h1.one
  obtain ⟨nl1, l1, hs1⟩ := hx1.inv_ints
  obtain rfl := hs1.eq
  obtain rfl := h2.nil
  exact Go.Oct.Rounds.RoundsCloses_ok n0 nC0 nA0 C0 A0 nl1 l1 hn0 hC0 hA0 hs1
theorem roundsCloses_lifted (os : Os) (started : os.Started) (H : Type) (enc : TypeId × Value → H) :
    ReturnsInHanded {} Try.checked os 10 .any (Rows.roundsClosesSpec.pre6 enc Try.prog Try.f10 Rows.roundsClosesRow.domain false) (Rows.roundsClosesSpec.post enc Try.prog Try.f10 false true false false) := by
  refine law_lifted (p := Go.Oct.Rounds.prog) (tb := 4) Try.checked Go.Oct.Rounds.compP Go.Oct.Rounds.fol Go.Oct.Rounds.oracleOK (by kernel_rfl) (by kernel_rfl) (by kernel_rfl) Try.func10 rfl (by kernel_rfl) (by kernel_rfl) (by kernel_rfl) (shs := [(true, [.int .i64, .sl false [.bool], .sl true [.int .i64, .int .i64, .int .i64, .int .i64]]), (false, [.sl false [.int .i64]])]) (by kernel_rfl) (by decide +kernel) (fun H ds hd => ?_) (fun avs σ => Go.Oct.Rounds.oNone (by decide)) RoundsCloses_ans os started H enc
    (ChangeSpec.witness6 (enc := enc) (C := Try.checked) false ⟨#[], #[.agg #[.int .i64 0, .slice none 0 0, .slice none 0 0], .slice none 0 0], []⟩ 8 (by kernel_rfl) (by kernel_rfl) (by kernel_rfl) (by kernel_rfl))
  match ds, hd with
  | [d0, d1], _ => rfl
theorem RoundsCloses_holds : Rows.RoundsClosesSaid :=
  OpenClaim.holds_of_wide 10 Try.f10 rfl rfl rfl rfl rfl rfl rfl ⟨rfl, rfl, rfl, rfl, rfl⟩ rfl rfl rfl rfl rfl (by kernel_rfl) Try.func10 (by kernel_rfl)
    (of_decide_eq_true (by kernel_rfl)) (by unfold Func.isWrapper; first | (rw [if_pos (by decide +kernel)]; kernel_rfl) | (rw [if_neg (by decide +kernel)]; exact ⟨rfl, rfl⟩))
    (fun os started H enc _ => roundsCloses_lifted os started H enc)
end Go.Proofs.Ytcnemenlbbickaa
