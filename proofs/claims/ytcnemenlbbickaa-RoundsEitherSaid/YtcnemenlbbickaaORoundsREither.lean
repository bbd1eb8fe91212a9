/- RoundsEither: it answers true at all arguments of its kinds, and leaves them as they were: no conditions. -/
import Derived.Test.YtcnemenlbbickaaORoundsEitL
import Derived.Test.YtcnemenlbbickaaOT3
import Derived.Test.YtcnemenlbbickaaRows
set_option maxRecDepth 100000
set_option linter.unusedVariables false
namespace Go.Proofs.Ytcnemenlbbickaa
open Go.ChangeShapes Go.WideShapes Go.ChangeAt Go.RowKit Go.Oct
theorem RoundsEither_ans (avs : List AV) (h0 : ArgsAre [(true, [.int .i64, .sl false [.bool], .sl true [.int .i64, .int .i64, .int .i64, .int .i64]]), (false, [.sl false [.int .i64]]), (true, [.sl false [.int .i64], .sl false [.int .i64], .bool])] avs) : ans Go.Oct.Rounds.prog Go.Oct.Rounds.O 11 avs = some (.bool true) := by
  obtain ⟨x0, xs0, rfl, hx0, h1⟩ := h0.agg
  obtain ⟨c0, r0, rfl, hc0, hr0⟩ := hx0.uncons
  obtain ⟨d0, s0, rfl, hd0, hs0⟩ := hr0.uncons
  obtain ⟨e0, rfl, he0⟩ := hs0.one
  obtain ⟨n0, rfl, hn0⟩ := hc0.inv_int
  obtain ⟨nC0, C0, hC0⟩ := Go.Oct.Rounds.inv_bools hd0
  obtain rfl := hC0.eq
  obtain ⟨nA0, A0, hA0⟩ := Go.Oct.Rounds.inv_ans he0
  obtain rfl := hA0.eq
  obtain ⟨x1, xs1, rfl, hx1, h2⟩ := h1.one
  obtain ⟨nl1, l1, hs1⟩ := hx1.inv_ints
  obtain rfl := hs1.eq
  obtain ⟨x2, xs2, rfl, hx2, h3⟩ := h2.agg
  obtain ⟨c2, r2, rfl, hc2, hr2⟩ := hx2.uncons
  obtain ⟨d2, s2, rfl, hd2, hs2⟩ := hr2.uncons
  obtain ⟨e2, rfl, he2⟩ := hs2.one
  obtain ⟨nP2, P2, hP2⟩ := hc2.inv_ints
  obtain rfl := hP2.eq
  obtain ⟨nQ2, Q2, hQ2⟩ := hd2.inv_ints
  obtain rfl := hQ2.eq
  obtain ⟨b2, rfl⟩ := he2.inv_bool
  obtain rfl := h3.nil
  exact Go.Oct.Rounds.RoundsEither_ok n0 nC0 nA0 C0 A0 nl1 l1 nP2 nQ2 P2 Q2 b2 hn0 hC0 hA0 hs1 hP2 hQ2
theorem roundsEither_lifted (os : Os) (started : os.Started) (H : Type) (enc : TypeId × Value → H) :
    ReturnsInHanded {} Try.checked os 11 .any (Rows.roundsEitherSpec.pre6 enc Try.prog Try.f11 Rows.roundsEitherRow.domain false) (Rows.roundsEitherSpec.post enc Try.prog Try.f11 false true false false) := by
  refine law_lifted (p := Go.Oct.Rounds.prog) (tb := 4) Try.checked Go.Oct.Rounds.compP Go.Oct.Rounds.fol Go.Oct.Rounds.oracleOK (by kernel_rfl) (by kernel_rfl) (by kernel_rfl) Try.func11 rfl (by kernel_rfl) (by kernel_rfl) (by kernel_rfl) (shs := [(true, [.int .i64, .sl false [.bool], .sl true [.int .i64, .int .i64, .int .i64, .int .i64]]), (false, [.sl false [.int .i64]]), (true, [.sl false [.int .i64], .sl false [.int .i64], .bool])]) (by kernel_rfl) (by decide +kernel) (fun H ds hd => ?_) (fun avs σ => Go.Oct.Rounds.oNone (by decide)) RoundsEither_ans os started H enc
    (ChangeSpec.witness6 (enc := enc) (C := Try.checked) false ⟨#[], #[.agg #[.int .i64 0, .slice none 0 0, .slice none 0 0], .slice none 0 0, .agg #[.slice none 0 0, .slice none 0 0, .bool false]], []⟩ 8 (by kernel_rfl) (by kernel_rfl) (by kernel_rfl) (by kernel_rfl))
  match ds, hd with
  | [d0, d1, d2], _ => rfl
theorem RoundsEither_holds : Rows.RoundsEitherSaid :=
  OpenClaim.holds_of_wide 11 Try.f11 rfl rfl rfl rfl rfl rfl rfl ⟨rfl, rfl, rfl, rfl, rfl⟩ rfl rfl rfl rfl rfl (by kernel_rfl) Try.func11 (by kernel_rfl)
    (of_decide_eq_true (by kernel_rfl)) (by unfold Func.isWrapper; first | (rw [if_pos (by decide +kernel)]; kernel_rfl) | (rw [if_neg (by decide +kernel)]; exact ⟨rfl, rfl⟩))
    (fun os started H enc _ => roundsEither_lifted os started H enc)
end Go.Proofs.Ytcnemenlbbickaa
