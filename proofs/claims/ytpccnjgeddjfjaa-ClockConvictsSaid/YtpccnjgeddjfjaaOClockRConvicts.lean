/- ClockConvicts: it answers true at all arguments of its kinds, and leaves them as they were: no conditions. -/
import Derived.Test.YtpccnjgeddjfjaaOClockCvtL
import Derived.Test.YtpccnjgeddjfjaaOT3
import Derived.Test.YtpccnjgeddjfjaaRows
set_option maxRecDepth 100000
set_option linter.unusedVariables false
namespace Go.Proofs.Ytpccnjgeddjfjaa
open Go.ChangeShapes Go.WideShapes Go.ChangeAt Go.RowKit Go.Oct
theorem ClockConvicts_ans (avs : List AV) (h0 : ArgsAre [(true, [.int .i64, .int .i64, .int .i64, .int .i64, .int .i64, .int .i64]), (false, [.int .i64]), (true, [.int .i64, .int .i64]), (false, [.sl false [.int .i64]])] avs) : ans Go.Oct.Clock.prog Go.Oct.Clock.O 12 avs = some (.bool true) := by
  obtain ⟨x0, xs0, rfl, hx0, h1⟩ := h0.agg
  obtain ⟨c00, r00, rfl, hc00, hr00⟩ := hx0.uncons
  obtain ⟨c10, r10, rfl, hc10, hr10⟩ := hr00.uncons
  obtain ⟨c20, r20, rfl, hc20, hr20⟩ := hr10.uncons
  obtain ⟨c30, r30, rfl, hc30, hr30⟩ := hr20.uncons
  obtain ⟨c40, r40, rfl, hc40, hr40⟩ := hr30.uncons
  obtain ⟨c50, rfl, hc50⟩ := hr40.one
  obtain ⟨n00, rfl, hn00⟩ := hc00.inv_int
  obtain ⟨n10, rfl, hn10⟩ := hc10.inv_int
  obtain ⟨n20, rfl, hn20⟩ := hc20.inv_int
  obtain ⟨n30, rfl, hn30⟩ := hc30.inv_int
  obtain ⟨n40, rfl, hn40⟩ := hc40.inv_int
  obtain ⟨n50, rfl, hn50⟩ := hc50.inv_int
  obtain ⟨x1, xs1, rfl, hx1, h2⟩ := h1.one
  obtain ⟨n1, rfl, hn1⟩ := hx1.inv_int
  obtain ⟨x2, xs2, rfl, hx2, h3⟩ := h2.agg
  obtain ⟨c2, r2, rfl, hc2, hr2⟩ := hx2.uncons
  obtain ⟨d2, rfl, hd2⟩ := hr2.one
  obtain ⟨n2, rfl, hn2⟩ := hc2.inv_int
  obtain ⟨m2, rfl, hm2⟩ := hd2.inv_int
  obtain ⟨x3, xs3, rfl, hx3, h4⟩ := h3.one
  obtain ⟨nl3, l3, hs3⟩ := hx3.inv_ints
  obtain rfl := hs3.eq
  obtain rfl := h4.nil
  exact Go.Oct.Clock.ClockConvicts_ok ⟨n00, n10⟩ ⟨n20, n30⟩ ⟨n40, n50⟩ n1 n2 m2 nl3 l3 hn1 hn2 hm2 hs3
theorem clockConvicts_lifted (os : Os) (started : os.Started) (H : Type) (enc : TypeId × Value → H) :
    ReturnsInHanded {} Try.checked os 12 .any (Rows.clockConvictsSpec.pre6 enc Try.prog Try.f12 Rows.clockConvictsRow.domain false) (Rows.clockConvictsSpec.post enc Try.prog Try.f12 false true false false) := by
  refine law_lifted (p := Go.Oct.Clock.prog) (tb := 4) Try.checked Go.Oct.Clock.compP Go.Oct.Clock.fol Go.Oct.Clock.oracleOK (by kernel_rfl) (by kernel_rfl) (by kernel_rfl) Try.func12 rfl (by kernel_rfl) (by kernel_rfl) (by kernel_rfl) (shs := [(true, [.int .i64, .int .i64, .int .i64, .int .i64, .int .i64, .int .i64]), (false, [.int .i64]), (true, [.int .i64, .int .i64]), (false, [.sl false [.int .i64]])]) (by kernel_rfl) (by decide +kernel) (fun H ds hd => ?_) (fun avs σ => Go.Oct.Clock.oNone (by decide)) ClockConvicts_ans os started H enc
    (ChangeSpec.witness6 (enc := enc) (C := Try.checked) false ⟨#[], #[.agg #[.int .i64 0, .int .i64 0, .int .i64 0, .int .i64 0, .int .i64 0, .int .i64 0], .int .i64 0, .agg #[.int .i64 0, .int .i64 0], .slice none 0 0], []⟩ 8 (by kernel_rfl) (by kernel_rfl) (by kernel_rfl) (by kernel_rfl))
  match ds, hd with
  | [d0, d1, d2, d3], _ => rfl
theorem ClockConvicts_holds : Rows.ClockConvictsSaid :=
  OpenClaim.holds_of_wide 12 Try.f12 rfl rfl rfl rfl rfl rfl rfl ⟨rfl, rfl, rfl, rfl, rfl⟩ rfl rfl rfl rfl rfl (by kernel_rfl) Try.func12 (by kernel_rfl)
    (of_decide_eq_true (by kernel_rfl)) (by unfold Func.isWrapper; first | (rw [if_pos (by decide +kernel)]; kernel_rfl) | (rw [if_neg (by decide +kernel)]; exact ⟨rfl, rfl⟩))
    (fun os started H enc _ => clockConvicts_lifted os started H enc)
end Go.Proofs.Ytpccnjgeddjfjaa
