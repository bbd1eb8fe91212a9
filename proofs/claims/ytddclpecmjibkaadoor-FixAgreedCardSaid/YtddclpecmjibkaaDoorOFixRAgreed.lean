/- FixAgreed: it answers true at all arguments of its kinds, and leaves them as they were; no conditions but what the package-level variable holds at the start, which the card ties to the program's text. -/
import Derived.Test.YtddclpecmjibkaaDoorOFixAgrL
import Derived.Test.YtddclpecmjibkaaDoorOFixGl
import Derived.Test.YtddclpecmjibkaaDoorOT3
import Derived.SevenTiedAt
import Derived.ProofKit
import Derived.HandedShaped
import Derived.Test.YtddclpecmjibkaaDoorRows
import Derived.Test.YtddclpecmjibkaaDoorTie
import Derived.Test.YtddclpecmjibkaaDoorCards
set_option maxRecDepth 100000
set_option linter.unusedVariables false
namespace Go.Proofs.YtddclpecmjibkaaDoor
open Go.ChangeShapes Go.WideShapes Go.ChangeAt Go.RowKit Go.Oct
theorem FixAgreed_ans (avs : List AV) (h0 : ArgsAre [(true, [.int .i64, .int .i64]), (false, [.sl true [.int .i64, .int .i64, .int .i64]]), (false, [.sl false [.int .i64]])] avs) : ans Go.Oct.Fix.prog Go.Oct.Fix.O 13 avs = some (.bool true) := by
  obtain ⟨x0, xs0, rfl, hx0, h1⟩ := h0.agg
  obtain ⟨c0, r0, rfl, hc0, hr0⟩ := hx0.uncons
  obtain ⟨d0, rfl, hd0⟩ := hr0.one
  obtain ⟨n0, rfl, hn0⟩ := hc0.inv_int
  obtain ⟨m0, rfl, hm0⟩ := hd0.inv_int
  obtain ⟨x1, xs1, rfl, hx1, h2⟩ := h1.one
  obtain ⟨nl1, l1, hs1⟩ := Go.Oct.Fix.inv_cars hx1
  obtain rfl := hs1.eq
  obtain ⟨x2, xs2, rfl, hx2, h3⟩ := h2.one
  obtain ⟨nl2, l2, hs2⟩ := hx2.inv_ints
  obtain rfl := hs2.eq
  obtain rfl := h3.nil
  exact Go.Oct.Fix.FixAgreed_ok ⟨n0, m0⟩ nl1 l1 nl2 l2 ⟨hn0, hm0⟩ hs1 hs2
theorem fixAgreed_lifted (os : Os) (started : os.Started) (H : Type) (enc : TypeId × Value → H) :
    ReturnsInHanded {} Tryd.checked os 13 .any (fun w args => (Rows.fixAgreedSpec.pre enc Tryd.prog Tryd.f13 [] false w args ∧ laidMetH Tryd.prog Go.Oct.Fix.laidL w) ∧ sizedMet enc Tryd.prog Tryd.f13 (OpenSpec.ofChange Rows.fixAgreedSpec) false w args)
      (Rows.fixAgreedSpec.post enc Tryd.prog Tryd.f13 false true false false) := by
  refine law_laid (p := Go.Oct.Fix.prog) (tb := 4) Tryd.checked Go.Oct.Fix.compP Go.Oct.Fix.fol Go.Oct.Fix.oracleOK (by kernel_rfl) (by kernel_rfl) (by kernel_rfl) Tryd.func13 rfl (by kernel_rfl) (by kernel_rfl) (by kernel_rfl) (shs := [(true, [.int .i64, .int .i64]), (false, [.sl true [.int .i64, .int .i64, .int .i64]]), (false, [.sl false [.int .i64]])]) (by kernel_rfl) (by decide +kernel) (fun H ds hd => ?_) (fun avs σ => Go.Oct.Fix.oNone (by decide)) FixAgreed_ans Go.Oct.Fix.gl_at os started H enc
    (ChangeSpec.witness_shaped (enc := enc) (C := Tryd.checked) (os := os) (X := fun w _ => laidMetH Tryd.prog Go.Oct.Fix.laidL w) false (World.doorLaid Tryd.prog 14 os) #[.agg #[.int .i64 0, .int .i64 0], .slice none 0 0, .slice none 0 0] 8 rfl (World.shaped_of_RefB (by kernel_rfl) (by kernel_rfl)) (by kernel_rfl) (by kernel_rfl) (by kernel_rfl) (Go.Oct.Fix.door_met os _))
  match ds, hd with
  | [d0, d1, d2], _ => rfl
theorem FixAgreed_row : Rows.FixAgreedSaid :=
  OpenClaim.holds_of_wide 13 Tryd.f13 rfl rfl rfl rfl rfl rfl rfl ⟨rfl, rfl, rfl, rfl, rfl⟩ rfl rfl rfl rfl rfl (by kernel_rfl) Tryd.func13 (by kernel_rfl)
    (of_decide_eq_true (by kernel_rfl)) (by unfold Func.isWrapper; first | (rw [if_pos (by decide +kernel)]; kernel_rfl) | (rw [if_neg (by decide +kernel)]; exact ⟨rfl, rfl⟩))
    (fun os started H enc _ => fixAgreed_lifted os started H enc)
theorem FixAgreed_holds : Rows.FixAgreedCardSaid :=
  Claim7.holds_tied_plain_at .later [] [.funcs] true Rows.fixAgreedCard.stood.harness false
    FixAgreed_row (fun _ h => by cases h) (by kernel_rfl) (fun _ h => by cases h) fixAgreed_row_tie rfl ⟨rfl, rfl⟩ (by kernel_rfl) rfl
    (fun f fn hf hfn => by
      obtain rfl : f = 13 := Option.some.inj ((show Tryd.prog.funcNamed Tryd.f13.name = some 13 by kernel_rfl).symm.trans hf) |>.symm
      obtain rfl : fn = Tryd.f13 := (Option.some.inj (Tryd.func13.symm.trans hfn)).symm
      exact ⟨by kernel_rfl, fun j t ht => by
        have hm : t ∈ Tryd.f13.params.toList := Array.mem_toList_iff.2 (Array.mem_of_getElem? ht)
        have hall : (Tryd.f13.params.toList.all fun u => !Tryd.prog.wantsStandIn u) = true := by kernel_rfl
        exact (show Tryd.prog.wantsStandIn t = false by simpa using List.all_eq_true.1 hall t hm)⟩)
    (by kernel_rfl)
end Go.Proofs.YtddclpecmjibkaaDoor
