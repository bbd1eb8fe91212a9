/- FixCarries: it answers true at all arguments of its kinds, and leaves them as they were; no conditions but what the package-level variable holds at the start, which the card ties to the program's text. -/
import Derived.Test.YtddclpecmjibkaaDoorOFixCarR
import Derived.Test.YtddclpecmjibkaaDoorOFixGl
import Derived.Test.YtddclpecmjibkaaDoorOT3
import Derived.SevenTiedAt
import Derived.ProofKit
import Derived.HandedShaped
import Derived.Test.YtddclpecmjibkaaDoorRows
import Derived.Test.YtddclpecmjibkaaDoorTie
import Derived.Test.YtddclpecmjibkaaDoorCards
set_option maxRecDepth 100000
set_option linter.unusedVariables false
namespace Go.Proofs.YtddclpecmjibkaaDoor
open Go.ChangeShapes Go.WideShapes Go.ChangeAt Go.RowKit Go.Oct
theorem FixCarries_ans (avs : List AV) (h0 : ArgsAre [(true, [.int .i64, .int .i64]), (false, [.sl true [.int .i64, .int .i64, .int .i64]])] avs) : ans Go.Oct.Fix.prog Go.Oct.Fix.O 6 avs = some (.bool true) := by
  obtain ⟨x0, xs0, rfl, hx0, h1⟩ := h0.agg
  obtain ⟨c0, r0, rfl, hc0, hr0⟩ := hx0.uncons
  obtain ⟨d0, rfl, hd0⟩ := hr0.one
  obtain ⟨n0, rfl, hn0⟩ := hc0.inv_int
  obtain ⟨m0, rfl, hm0⟩ := hd0.inv_int
  obtain ⟨x1, xs1, rfl, hx1, h2⟩ := h1.one
  obtain ⟨nl1, l1, hs1⟩ := Go.Oct.Fix.inv_cars hx1
  obtain rfl := hs1.eq
  obtain rfl := h2.nil
  exact Go.Oct.Fix.FixCarries_ok ⟨n0, m0⟩ nl1 l1 ⟨hn0, hm0⟩ hs1
theorem fixCarries_lifted (os : Os) (started : os.Started) (H : Type) (enc : TypeId × Value → H) :
    ReturnsInHanded {} Tryd.checked os 6 .any (fun w args => (Rows.fixCarriesSpec.pre enc Tryd.prog Tryd.f6 [] false w args ∧ laidMetH Tryd.prog Go.Oct.Fix.laidL w) ∧ sizedMet enc Tryd.prog Tryd.f6 (OpenSpec.ofChange Rows.fixCarriesSpec) false w args)
      (Rows.fixCarriesSpec.post enc Tryd.prog Tryd.f6 false true false false) := by
  refine law_laid (p := Go.Oct.Fix.prog) (tb := 4) Tryd.checked Go.Oct.Fix.compP Go.Oct.Fix.fol Go.Oct.Fix.oracleOK (by kernel_rfl) (by kernel_rfl) (by kernel_rfl) Tryd.func6 rfl (by kernel_rfl) (by kernel_rfl) (by kernel_rfl) (shs := [(true, [.int .i64, .int .i64]), (false, [.sl true [.int .i64, .int .i64, .int .i64]])]) (by kernel_rfl) (by decide +kernel) (fun H ds hd => ?_) (fun avs σ => Go.Oct.Fix.oNone (by decide)) FixCarries_ans Go.Oct.Fix.gl_at os started H enc
    (ChangeSpec.witness_shaped (enc := enc) (C := Tryd.checked) (os := os) (X := fun w _ => laidMetH Tryd.prog Go.Oct.Fix.laidL w) false (World.doorLaid Tryd.prog 14 os) #[.agg #[.int .i64 0, .int .i64 0], .slice none 0 0] 8 rfl (World.shaped_of_RefB (by kernel_rfl) (by kernel_rfl)) (by kernel_rfl) (by kernel_rfl) (by kernel_rfl) (Go.Oct.Fix.door_met os _))
  match ds, hd with
  | [d0, d1], _ => rfl
theorem FixCarries_row : Rows.FixCarriesSaid :=
  OpenClaim.holds_of_wide 6 Tryd.f6 rfl rfl rfl rfl rfl rfl rfl ⟨rfl, rfl, rfl, rfl, rfl⟩ rfl rfl rfl rfl rfl (by kernel_rfl) Tryd.func6 (by kernel_rfl)
    (of_decide_eq_true (by kernel_rfl)) (by unfold Func.isWrapper; first | (rw [if_pos (by decide +kernel)]; kernel_rfl) | (rw [if_neg (by decide +kernel)]; exact ⟨rfl, rfl⟩))
    (fun os started H enc _ => fixCarries_lifted os started H enc)
theorem FixCarries_holds : Rows.FixCarriesCardSaid :=
  Claim7.holds_tied_plain_at .later [] [.funcs] true Rows.fixCarriesCard.stood.harness false
    FixCarries_row (fun _ h => by cases h) (by kernel_rfl) (fun _ h => by cases h) fixCarries_row_tie rfl ⟨rfl, rfl⟩ (by kernel_rfl) rfl
    (fun f fn hf hfn => by
      obtain rfl : f = 6 := Option.some.inj ((show Tryd.prog.funcNamed Tryd.f6.name = some 6 by kernel_rfl).symm.trans hf) |>.symm
      obtain rfl : fn = Tryd.f6 := (Option.some.inj (Tryd.func6.symm.trans hfn)).symm
      exact ⟨by kernel_rfl, fun j t ht => by
        have hm : t ∈ Tryd.f6.params.toList := Array.mem_toList_iff.2 (Array.mem_of_getElem? ht)
        have hall : (Tryd.f6.params.toList.all fun u => !Tryd.prog.wantsStandIn u) = true := by kernel_rfl
        exact (show Tryd.prog.wantsStandIn t = false by simpa using List.all_eq_true.1 hall t hm)⟩)
    (by kernel_rfl)
end Go.Proofs.YtddclpecmjibkaaDoor
