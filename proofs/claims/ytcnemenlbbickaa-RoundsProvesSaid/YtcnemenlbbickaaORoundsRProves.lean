/- RoundsProves: it answers true at all arguments of its kinds, and leaves them as they were: no conditions. -/
import Derived.Test.YtcnemenlbbickaaORoundsPrvL
import Derived.Test.YtcnemenlbbickaaOT3
import Derived.Test.YtcnemenlbbickaaRows
set_option maxRecDepth 100000
set_option linter.unusedVariables false
namespace Go.Proofs.Ytcnemenlbbickaa
open Go.ChangeShapes Go.WideShapes Go.ChangeAt Go.RowKit Go.Oct
theorem RoundsProves_ans (avs : List AV) (h0 : ArgsAre [(true, [.int .i64, .sl false [.bool], .sl true [.int .i64, .int .i64, .int .i64, .int .i64]]), (true, [.sl false [.int .i64], .sl false [.int .i64], .bool])] avs) : ans Go.Oct.Rounds.prog Go.Oct.Rounds.O 4 avs = some (.bool true) := by
  obtain ⟨x0, xs0, rfl, hx0, h1⟩ := h0.agg
  obtain ⟨c0, r0, rfl, hc0, hr0⟩ := hx0.uncons
  obtain ⟨d0, s0, rfl, hd0, hs0⟩ := hr0.uncons
  obtain ⟨e0, rfl, he0⟩ := hs0.one
  obtain ⟨n0, rfl, hn0⟩ := hc0.inv_int
  obtain ⟨nC0, C0, hC0⟩ := Go.Oct.Rounds.inv_bools hd0
  obtain rfl := hC0.eq
  obtain ⟨nA0, A0, hA0⟩ := Go.Oct.Rounds.inv_ans he0
  obtain rfl := hA0.eq
  obtain ⟨x1, xs1, rfl, hx1, h2⟩ := h1.agg
  obtain ⟨c1, r1, rfl, hc1, hr1⟩ := hx1.uncons
  obtain ⟨d1, s1, rfl, hd1, hs1⟩ := hr1.uncons
  obtain ⟨e1, rfl, he1⟩ := hs1.one
  obtain ⟨nP1, P1, hP1⟩ := hc1.inv_ints
  obtain rfl := hP1.eq
  obtain ⟨nQ1, Q1, hQ1⟩ := hd1.inv_ints
  obtain rfl := hQ1.eq
  obtain ⟨b1, rfl⟩ := he1.inv_bool
  obtain rfl := h2.nil
  exact Go.Oct.Rounds.RoundsProves_ok n0 nC0 nA0 C0 A0 nP1 nQ1 P1 Q1 b1 hn0 hC0 hA0 hP1 hQ1
theorem roundsProves_lifted (os : Os) (started : os.Started) (H : Type) (enc : TypeId × Value → H) :
    ReturnsInHanded {} Try.checked os 4 .any (Rows.roundsProvesSpec.pre6 enc Try.prog Try.f4 Rows.roundsProvesRow.domain false) (Rows.roundsProvesSpec.post enc Try.prog Try.f4 false true false false) := by
  refine law_lifted (p := Go.Oct.Rounds.prog) (tb := 4) Try.checked Go.Oct.Rounds.compP Go.Oct.Rounds.fol Go.Oct.Rounds.oracleOK (by kernel_rfl) (by kernel_rfl) (by kernel_rfl) Try.func4 rfl (by kernel_rfl) (by kernel_rfl) (by kernel_rfl) (shs := [(true, [.int .i64, .sl false [.bool], .sl true [.int .i64, .int .i64, .int .i64, .int .i64]]), (true, [.sl false [.int .i64], .sl false [.int .i64], .bool])]) (by kernel_rfl) (by decide +kernel) (fun H ds hd => ?_) (fun avs σ => Go.Oct.Rounds.oNone (by decide)) RoundsProves_ans os started H enc
    (ChangeSpec.witness6 (enc := enc) (C := Try.checked) false ⟨#[], #[.agg #[.int .i64 0, .slice none 0 0, .slice none 0 0], .agg #[.slice none 0 0, .slice none 0 0, .bool false]], []⟩ 8 (by kernel_rfl) (by kernel_rfl) (by kernel_rfl) (by kernel_rfl))
  match ds, hd with
  | [d0, d1], _ => rfl
theorem RoundsProves_holds : Rows.RoundsProvesSaid :=
  OpenClaim.holds_of_wide 4 Try.f4 rfl rfl rfl rfl rfl rfl rfl ⟨rfl, rfl, rfl, rfl, rfl⟩ rfl rfl rfl rfl rfl (by kernel_rfl) Try.func4 (by kernel_rfl)
    (of_decide_eq_true (by kernel_rfl)) (by unfold Func.isWrapper; first | (rw [if_pos (by decide +kernel)]; kernel_rfl) | (rw [if_neg (by decide +kernel)]; exact ⟨rfl, rfl⟩))
    (fun os started H enc _ => roundsProves_lifted os started H enc)
end Go.Proofs.Ytcnemenlbbickaa
