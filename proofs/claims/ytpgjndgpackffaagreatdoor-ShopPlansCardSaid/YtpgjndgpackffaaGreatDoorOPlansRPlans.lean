/- ShopPlans: it answers true at all arguments of its kinds, and leaves them as they were; no conditions but what the package-level variable holds at the start, which the card ties to the program's text. -/
import Derived.Test.YtpgjndgpackffaaGreatDoorOPlansPlaL
import Derived.Test.YtpgjndgpackffaaGreatDoorOPlansGl
import Derived.Test.YtpgjndgpackffaaGreatDoorOT3
import Derived.SevenTiedAt
import Derived.ProofKit
import Derived.HandedShaped
import Derived.Test.YtpgjndgpackffaaGreatDoorRows
import Derived.Test.YtpgjndgpackffaaGreatDoorTie
import Derived.Test.YtpgjndgpackffaaGreatDoorCards
set_option maxRecDepth 100000
set_option linter.unusedVariables false
namespace Go.Proofs.YtpgjndgpackffaaGreatDoor
open Go.ChangeShapes Go.WideShapes Go.ChangeAt Go.RowKit Go.Oct
theorem ShopPlans_ans (avs : List AV) (h0 : ArgsAre [(false, [.sl true [.int .i64, .int .i64, .int .i64]]), (false, [.int .i64]), (false, [.sl false [.sl false [.int .i64]]])] avs) : ans Go.Oct.Plans.prog Go.Oct.Plans.O 3 avs = some (.bool true) := by
  obtain ⟨x0, xs0, rfl, hx0, h1⟩ := h0.one
  obtain ⟨nl0, l0, hs0⟩ := Go.Oct.Plans.inv_pcs hx0
  obtain rfl := hs0.eq
  obtain ⟨x1, xs1, rfl, hx1, h2⟩ := h1.one
  obtain ⟨n1, rfl, hn1⟩ := hx1.inv_int
  obtain ⟨x2, xs2, rfl, hx2, h3⟩ := h2.one
  obtain ⟨nl2, l2, hs2⟩ := hx2.inv_rows
  obtain rfl := hs2.eq
  obtain rfl := h3.nil
  exact Go.Oct.Plans.ShopPlans_ok nl0 l0 n1 nl2 l2 hs0 hs2
theorem shopPlans_lifted (os : Os) (started : os.Started) (H : Type) (enc : TypeId × Value → H) :
    ReturnsInHanded {} Tryz.checked os 3 .any (fun w args => (Rows.shopPlansSpec.pre enc Tryz.prog Tryz.f3 [] false w args ∧ laidMetH Tryz.prog Go.Oct.Plans.laidL w) ∧ sizedMet enc Tryz.prog Tryz.f3 (OpenSpec.ofChange Rows.shopPlansSpec) false w args)
      (Rows.shopPlansSpec.post enc Tryz.prog Tryz.f3 false true false false) := by
  refine law_laid (p := Go.Oct.Plans.prog) (tb := 4) Tryz.checked Go.Oct.Plans.compP Go.Oct.Plans.fol Go.Oct.Plans.oracleOK (by kernel_rfl) (by kernel_rfl) (by kernel_rfl) Tryz.func3 rfl (by kernel_rfl) (by kernel_rfl) (by kernel_rfl) (shs := [(false, [.sl true [.int .i64, .int .i64, .int .i64]]), (false, [.int .i64]), (false, [.sl false [.sl false [.int .i64]]])]) (by kernel_rfl) (by decide +kernel) (fun H ds hd => ?_) (fun avs σ => Go.Oct.Plans.oNone (by decide)) ShopPlans_ans Go.Oct.Plans.gl_at os started H enc
    (ChangeSpec.witness_shaped (enc := enc) (C := Tryz.checked) (os := os) (X := fun w _ => laidMetH Tryz.prog Go.Oct.Plans.laidL w) false (World.doorLaid Tryz.prog 14 os) #[.slice none 0 0, .int .i64 0, .slice none 0 0] 8 rfl (World.shaped_of_RefB (by kernel_rfl) (by kernel_rfl)) (by kernel_rfl) (by kernel_rfl) (by kernel_rfl) (Go.Oct.Plans.door_met os _))
  match ds, hd with
  | [d0, d1, d2], _ => rfl
theorem ShopPlans_row : Rows.ShopPlansSaid :=
  OpenClaim.holds_of_wide 3 Tryz.f3 rfl rfl rfl rfl rfl rfl rfl ⟨rfl, rfl, rfl, rfl, rfl⟩ rfl rfl rfl rfl rfl (by kernel_rfl) Tryz.func3 (by kernel_rfl)
    (of_decide_eq_true (by kernel_rfl)) (by unfold Func.isWrapper; first | (rw [if_pos (by decide +kernel)]; kernel_rfl) | (rw [if_neg (by decide +kernel)]; exact ⟨rfl, rfl⟩))
    (fun os started H enc _ => shopPlans_lifted os started H enc)
theorem ShopPlans_holds : Rows.ShopPlansCardSaid :=
  Claim7.holds_tied_plain_at .later [] [.funcs] true Rows.shopPlansCard.stood.harness false
    ShopPlans_row (fun _ h => by cases h) (by kernel_rfl) (fun _ h => by cases h) shopPlans_row_tie rfl ⟨rfl, rfl⟩ (by kernel_rfl) rfl
    (fun f fn hf hfn => by
      obtain rfl : f = 3 := Option.some.inj ((show Tryz.prog.funcNamed Tryz.f3.name = some 3 by kernel_rfl).symm.trans hf) |>.symm
      obtain rfl : fn = Tryz.f3 := (Option.some.inj (Tryz.func3.symm.trans hfn)).symm
      exact ⟨by kernel_rfl, fun j t ht => by
        have hm : t ∈ Tryz.f3.params.toList := Array.mem_toList_iff.2 (Array.mem_of_getElem? ht)
        have hall : (Tryz.f3.params.toList.all fun u => !Tryz.prog.wantsStandIn u) = true := by kernel_rfl
        exact (show Tryz.prog.wantsStandIn t = false by simpa using List.all_eq_true.1 hall t hm)⟩)
    (by kernel_rfl)
end Go.Proofs.YtpgjndgpackffaaGreatDoor
