/- ClockLonger: it answers true at all arguments of its kinds, and leaves them as they were: no conditions. -/
import Derived.Test.YtpccnjgeddjfjaaOClockLonL
import Derived.Test.YtpccnjgeddjfjaaOT3
import Derived.Test.YtpccnjgeddjfjaaRows
set_option maxRecDepth 100000
set_option linter.unusedVariables false
namespace Go.Proofs.Ytpccnjgeddjfjaa
open Go.ChangeShapes Go.WideShapes Go.ChangeAt Go.RowKit Go.Oct
theorem ClockLonger_ans (avs : List AV) (h0 : ArgsAre [(true, [.sl false [.int .i64], .sl false [.int .i64], .int .i64, .int .i64, .int .i64, .int .i64, .int .i64, .int .i64, .int .i64]), (false, [.int .i64])] avs) : ans Go.Oct.Clock.prog Go.Oct.Clock.O 13 avs = some (.bool true) := by
  obtain ⟨x0, xs0, rfl, hx0, h1⟩ := h0.agg
  obtain ⟨c00, r00, rfl, hc00, hr00⟩ := hx0.uncons
  obtain ⟨c10, r10, rfl, hc10, hr10⟩ := hr00.uncons
  obtain ⟨c20, r20, rfl, hc20, hr20⟩ := hr10.uncons
  obtain ⟨c30, r30, rfl, hc30, hr30⟩ := hr20.uncons
  obtain ⟨c40, r40, rfl, hc40, hr40⟩ := hr30.uncons
  obtain ⟨c50, r50, rfl, hc50, hr50⟩ := hr40.uncons
  obtain ⟨c60, r60, rfl, hc60, hr60⟩ := hr50.uncons
  obtain ⟨c70, r70, rfl, hc70, hr70⟩ := hr60.uncons
  obtain ⟨c80, rfl, hc80⟩ := hr70.one
  obtain ⟨nl00, l00, hs00⟩ := hc00.inv_ints
  obtain rfl := hs00.eq
  obtain ⟨nl10, l10, hs10⟩ := hc10.inv_ints
  obtain rfl := hs10.eq
  obtain ⟨n20, rfl, hn20⟩ := hc20.inv_int
  obtain ⟨n30, rfl, hn30⟩ := hc30.inv_int
  obtain ⟨n40, rfl, hn40⟩ := hc40.inv_int
  obtain ⟨n50, rfl, hn50⟩ := hc50.inv_int
  obtain ⟨n60, rfl, hn60⟩ := hc60.inv_int
  obtain ⟨n70, rfl, hn70⟩ := hc70.inv_int
  obtain ⟨n80, rfl, hn80⟩ := hc80.inv_int
  obtain ⟨x1, xs1, rfl, hx1, h2⟩ := h1.one
  obtain ⟨n1, rfl, hn1⟩ := hx1.inv_int
  obtain rfl := h2.nil
  exact Go.Oct.Clock.ClockLonger_ok nl00 nl10 l00 l10 n20 ⟨n30, n40⟩ ⟨n50, n60⟩ ⟨n70, n80⟩ n1 hs00 hs10 hn1
theorem clockLonger_lifted (os : Os) (started : os.Started) (H : Type) (enc : TypeId × Value → H) :
    ReturnsInHanded {} Try.checked os 13 .any (Rows.clockLongerSpec.pre6 enc Try.prog Try.f13 Rows.clockLongerRow.domain false) (Rows.clockLongerSpec.post enc Try.prog Try.f13 false true false false) := by
  refine law_lifted (p := Go.Oct.Clock.prog) (tb := 4) Try.checked Go.Oct.Clock.compP Go.Oct.Clock.fol Go.Oct.Clock.oracleOK (by kernel_rfl) (by kernel_rfl) (by kernel_rfl) Try.func13 rfl (by kernel_rfl) (by kernel_rfl) (by kernel_rfl) (shs := [(true, [.sl false [.int .i64], .sl false [.int .i64], .int .i64, .int .i64, .int .i64, .int .i64, .int .i64, .int .i64, .int .i64]), (false, [.int .i64])]) (by kernel_rfl) (by decide +kernel) (fun H ds hd => ?_) (fun avs σ => Go.Oct.Clock.oNone (by decide)) ClockLonger_ans os started H enc
    (ChangeSpec.witness6 (enc := enc) (C := Try.checked) false ⟨#[], #[.agg #[.slice none 0 0, .slice none 0 0, .int .i64 0, .int .i64 0, .int .i64 0, .int .i64 0, .int .i64 0, .int .i64 0, .int .i64 0], .int .i64 0], []⟩ 8 (by kernel_rfl) (by kernel_rfl) (by kernel_rfl) (by kernel_rfl))
  match ds, hd with
  | [d0, d1], _ => rfl
theorem ClockLonger_holds : Rows.ClockLongerSaid :=
  OpenClaim.holds_of_wide 13 Try.f13 rfl rfl rfl rfl rfl rfl rfl ⟨rfl, rfl, rfl, rfl, rfl⟩ rfl rfl rfl rfl rfl (by kernel_rfl) Try.func13 (by kernel_rfl)
    (of_decide_eq_true (by kernel_rfl)) (by unfold Func.isWrapper; first | (rw [if_pos (by decide +kernel)]; kernel_rfl) | (rw [if_neg (by decide +kernel)]; exact ⟨rfl, rfl⟩))
    (fun os started H enc _ => clockLonger_lifted os started H enc)
end Go.Proofs.Ytpccnjgeddjfjaa
