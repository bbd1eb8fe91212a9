/- RoundsInside: it answers true at all arguments of its kinds, and leaves them as they were: no conditions. -/
import Derived.Test.YtcnemenlbbickaaORoundsInsL
import Derived.Test.YtcnemenlbbickaaOT3
import Derived.Test.YtcnemenlbbickaaRows
set_option maxRecDepth 100000
set_option linter.unusedVariables false
namespace Go.Proofs.Ytcnemenlbbickaa
open Go.ChangeShapes Go.WideShapes Go.ChangeAt Go.RowKit Go.Oct
theorem RoundsInside_ans (avs : List AV) (h0 : ArgsAre [(true, [.int .i64, .sl false [.bool], .sl true [.int .i64, .int .i64, .int .i64, .int .i64]]), (false, [.sl false [.int .i64]]), (true, [.int .i64, .int .i64, .int .i64])] avs) : ans Go.Oct.Rounds.prog Go.Oct.Rounds.O 12 avs = some (.bool true) := by
  obtain ⟨x0, xs0, rfl, hx0, h1⟩ := h0.agg
  obtain ⟨c0, r0, rfl, hc0, hr0⟩ := hx0.uncons
  obtain ⟨d0, s0, rfl, hd0, hs0⟩ := hr0.uncons
  obtain ⟨e0, rfl, he0⟩ := hs0.one
  obtain ⟨n0, rfl, hn0⟩ := hc0.inv_int
  obtain ⟨nC0, C0, hC0⟩ := Go.Oct.Rounds.inv_bools hd0
  obtain rfl := hC0.eq
  obtain ⟨nA0, A0, hA0⟩ := Go.Oct.Rounds.inv_ans he0
  obtain rfl := hA0.eq
  obtain ⟨x1, xs1, rfl, hx1, h2⟩ := h1.one
  obtain ⟨nl1, l1, hs1⟩ := hx1.inv_ints
  obtain rfl := hs1.eq
  obtain ⟨x2, xs2, rfl, hx2, h3⟩ := h2.agg
  obtain ⟨c2, r2, rfl, hc2, hr2⟩ := hx2.uncons
  obtain ⟨d2, s2, rfl, hd2, hs2⟩ := hr2.uncons
  obtain ⟨e2, rfl, he2⟩ := hs2.one
  obtain ⟨n2, rfl, hn2⟩ := hc2.inv_int
  obtain ⟨m2, rfl, hm2⟩ := hd2.inv_int
  obtain ⟨k2, rfl, hk2⟩ := he2.inv_int
  obtain rfl := h3.nil
  exact Go.Oct.Rounds.RoundsInside_ok n0 nC0 nA0 C0 A0 nl1 l1 n2 m2 k2 hn0 hC0 hA0 hs1 hn2 hm2 hk2
theorem roundsInside_lifted (os : Os) (started : os.Started) (H : Type) (enc : TypeId × Value → H) :
    ReturnsInHanded {} Try.checked os 12 .any (Rows.roundsInsideSpec.pre6 enc Try.prog Try.f12 Rows.roundsInsideRow.domain false) (Rows.roundsInsideSpec.post enc Try.prog Try.f12 false true false false) := by
  refine law_lifted (p := Go.Oct.Rounds.prog) (tb := 4) Try.checked Go.Oct.Rounds.compP Go.Oct.Rounds.fol Go.Oct.Rounds.oracleOK (by kernel_rfl) (by kernel_rfl) (by kernel_rfl) Try.func12 rfl (by kernel_rfl) (by kernel_rfl) (by kernel_rfl) (shs := [(true, [.int .i64, .sl false [.bool], .sl true [.int .i64, .int .i64, .int .i64, .int .i64]]), (false, [.sl false [.int .i64]]), (true, [.int .i64, .int .i64, .int .i64])]) (by kernel_rfl) (by decide +kernel) (fun H ds hd => ?_) (fun avs σ => Go.Oct.Rounds.oNone (by decide)) RoundsInside_ans os started H enc
    (ChangeSpec.witness6 (enc := enc) (C := Try.checked) false ⟨#[], #[.agg #[.int .i64 0, .slice none 0 0, .slice none 0 0], .slice none 0 0, .agg #[.int .i64 0, .int .i64 0, .int .i64 0]], []⟩ 8 (by kernel_rfl) (by kernel_rfl) (by kernel_rfl) (by kernel_rfl))
  match ds, hd with
  | [d0, d1, d2], _ => rfl
theorem RoundsInside_holds : Rows.RoundsInsideSaid :=
  OpenClaim.holds_of_wide 12 Try.f12 rfl rfl rfl rfl rfl rfl rfl ⟨rfl, rfl, rfl, rfl, rfl⟩ rfl rfl rfl rfl rfl (by kernel_rfl) Try.func12 (by kernel_rfl)
    (of_decide_eq_true (by kernel_rfl)) (by unfold Func.isWrapper; first | (rw [if_pos (by decide +kernel)]; kernel_rfl) | (rw [if_neg (by decide +kernel)]; exact ⟨rfl, rfl⟩))
    (fun os started H enc _ => roundsInside_lifted os started H enc)
end Go.Proofs.Ytcnemenlbbickaa
