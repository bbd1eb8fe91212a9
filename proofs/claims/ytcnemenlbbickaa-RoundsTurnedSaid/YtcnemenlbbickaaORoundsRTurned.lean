/- RoundsTurned: it answers true at all arguments of its kinds, and leaves them as they were: no conditions. -/
import Derived.Test.YtcnemenlbbickaaORoundsTurnL
import Derived.Test.YtcnemenlbbickaaOT3
import Derived.Test.YtcnemenlbbickaaRows
set_option maxRecDepth 100000
set_option linter.unusedVariables false
namespace Go.Proofs.Ytcnemenlbbickaa
open Go.ChangeShapes Go.WideShapes Go.ChangeAt Go.RowKit Go.Oct
theorem RoundsTurned_ans (avs : List AV) (h0 : ArgsAre [(true, [.int .i64, .int .i64, .int .i64, .int .i64]), (true, [.int .i64, .int .i64]), (true, [.int .i64, .int .i64])] avs) : ans Go.Oct.Rounds.prog Go.Oct.Rounds.O 6 avs = some (.bool true) := by
  obtain ⟨x0, xs0, rfl, hx0, h1⟩ := h0.agg
  obtain ⟨c0, r0, rfl, hc0, hr0⟩ := hx0.uncons
  obtain ⟨d0, s0, rfl, hd0, hs0⟩ := hr0.uncons
  obtain ⟨e0, t0, rfl, he0, ht0⟩ := hs0.uncons
  obtain ⟨f0, rfl, hf0⟩ := ht0.one
  obtain ⟨n0, rfl, hn0⟩ := hc0.inv_int
  obtain ⟨m0, rfl, hm0⟩ := hd0.inv_int
  obtain ⟨k0, rfl, hk0⟩ := he0.inv_int
  obtain ⟨l0, rfl, hl0⟩ := hf0.inv_int
  obtain ⟨x1, xs1, rfl, hx1, h2⟩ := h1.agg
  obtain ⟨c1, r1, rfl, hc1, hr1⟩ := hx1.uncons
  obtain ⟨d1, rfl, hd1⟩ := hr1.one
  obtain ⟨n1, rfl, hn1⟩ := hc1.inv_int
  obtain ⟨m1, rfl, hm1⟩ := hd1.inv_int
  obtain ⟨x2, xs2, rfl, hx2, h3⟩ := h2.agg
  obtain ⟨c2, r2, rfl, hc2, hr2⟩ := hx2.uncons
  obtain ⟨d2, rfl, hd2⟩ := hr2.one
  obtain ⟨n2, rfl, hn2⟩ := hc2.inv_int
  obtain ⟨m2, rfl, hm2⟩ := hd2.inv_int
  obtain rfl := h3.nil
  exact Go.Oct.Rounds.RoundsTurned_ok n0 m0 k0 l0 n1 m1 n2 m2 hn0 hm0 hk0 hl0 hn1 hm1 hn2 hm2
theorem roundsTurned_lifted (os : Os) (started : os.Started) (H : Type) (enc : TypeId × Value → H) :
    ReturnsInHanded {} Try.checked os 6 .any (Rows.roundsTurnedSpec.pre6 enc Try.prog Try.f6 Rows.roundsTurnedRow.domain false) (Rows.roundsTurnedSpec.post enc Try.prog Try.f6 false true false false) := by
  refine law_lifted (p := Go.Oct.Rounds.prog) (tb := 4) Try.checked Go.Oct.Rounds.compP Go.Oct.Rounds.fol Go.Oct.Rounds.oracleOK (by kernel_rfl) (by kernel_rfl) (by kernel_rfl) Try.func6 rfl (by kernel_rfl) (by kernel_rfl) (by kernel_rfl) (shs := [(true, [.int .i64, .int .i64, .int .i64, .int .i64]), (true, [.int .i64, .int .i64]), (true, [.int .i64, .int .i64])]) (by kernel_rfl) (by decide +kernel) (fun H ds hd => ?_) (fun avs σ => Go.Oct.Rounds.oNone (by decide)) RoundsTurned_ans os started H enc
    (ChangeSpec.witness6 (enc := enc) (C := Try.checked) false ⟨#[], #[.agg #[.int .i64 0, .int .i64 0, .int .i64 0, .int .i64 0], .agg #[.int .i64 0, .int .i64 0], .agg #[.int .i64 0, .int .i64 0]], []⟩ 8 (by kernel_rfl) (by kernel_rfl) (by kernel_rfl) (by kernel_rfl))
  match ds, hd with
  | [d0, d1, d2], _ => rfl
theorem RoundsTurned_holds : Rows.RoundsTurnedSaid :=
  OpenClaim.holds_of_wide 6 Try.f6 rfl rfl rfl rfl rfl rfl rfl ⟨rfl, rfl, rfl, rfl, rfl⟩ rfl rfl rfl rfl rfl (by kernel_rfl) Try.func6 (by kernel_rfl)
    (of_decide_eq_true (by kernel_rfl)) (by unfold Func.isWrapper; first | (rw [if_pos (by decide +kernel)]; kernel_rfl) | (rw [if_neg (by decide +kernel)]; exact ⟨rfl, rfl⟩))
    (fun os started H enc _ => roundsTurned_lifted os started H enc)
end Go.Proofs.Ytcnemenlbbickaa
