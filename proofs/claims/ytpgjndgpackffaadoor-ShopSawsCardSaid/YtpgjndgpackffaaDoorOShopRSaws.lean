/- ShopSaws: it answers true at all arguments of its kinds, and leaves them as they were; no conditions but what the package-level variable holds at the start, which the card ties to the program's text. -/
import Derived.Test.YtpgjndgpackffaaDoorOShopSawT
import Derived.Test.YtpgjndgpackffaaDoorOShopGl
import Derived.Test.YtpgjndgpackffaaDoorOT3
import Derived.SevenTiedAt
import Derived.ProofKit
import Derived.HandedShaped
import Derived.Test.YtpgjndgpackffaaDoorRows
import Derived.Test.YtpgjndgpackffaaDoorTie
import Derived.Test.YtpgjndgpackffaaDoorCards
set_option maxRecDepth 100000
set_option linter.unusedVariables false
namespace Go.Proofs.YtpgjndgpackffaaDoor
open Go.ChangeShapes Go.WideShapes Go.ChangeAt Go.RowKit Go.Oct
theorem ShopSaws_ans (avs : List AV) (h0 : ArgsAre [(false, [.int .i64]), (false, [.int .i64]), (false, [.sl false [.int .i64]])] avs) : ans Go.Oct.Shop.prog Go.Oct.Shop.O 5 avs = some (.bool true) := by
  obtain ⟨x0, xs0, rfl, hx0, h1⟩ := h0.one
  obtain ⟨n0, rfl, hn0⟩ := hx0.inv_int
  obtain ⟨x1, xs1, rfl, hx1, h2⟩ := h1.one
  obtain ⟨n1, rfl, hn1⟩ := hx1.inv_int
  obtain ⟨x2, xs2, rfl, hx2, h3⟩ := h2.one
  obtain ⟨nl2, l2, hs2⟩ := hx2.inv_ints
  obtain rfl := hs2.eq
  obtain rfl := h3.nil
  exact Go.Oct.Shop.ShopSaws_ok n0 n1 nl2 l2 (by have := hs2.len; omega)
theorem shopSaws_lifted (os : Os) (started : os.Started) (H : Type) (enc : TypeId × Value → H) :
    ReturnsInHanded {} Tryd.checked os 5 .any (fun w args => (Rows.shopSawsSpec.pre enc Tryd.prog Tryd.f5 [] false w args ∧ laidMetH Tryd.prog Go.Oct.Shop.laidL w) ∧ sizedMet enc Tryd.prog Tryd.f5 (OpenSpec.ofChange Rows.shopSawsSpec) false w args)
      (Rows.shopSawsSpec.post enc Tryd.prog Tryd.f5 false true false false) := by
  refine law_laid (p := Go.Oct.Shop.prog) (tb := 4) Tryd.checked Go.Oct.Shop.compP Go.Oct.Shop.fol Go.Oct.Shop.oracleOK (by kernel_rfl) (by kernel_rfl) (by kernel_rfl) Tryd.func5 rfl (by kernel_rfl) (by kernel_rfl) (by kernel_rfl) (shs := [(false, [.int .i64]), (false, [.int .i64]), (false, [.sl false [.int .i64]])]) (by kernel_rfl) (by decide +kernel) (fun H ds hd => ?_) (fun avs σ => Go.Oct.Shop.oNone (by decide)) ShopSaws_ans Go.Oct.Shop.gl_at os started H enc
    (ChangeSpec.witness_shaped (enc := enc) (C := Tryd.checked) (os := os) (X := fun w _ => laidMetH Tryd.prog Go.Oct.Shop.laidL w) false (World.doorLaid Tryd.prog 14 os) #[.int .i64 0, .int .i64 0, .slice none 0 0] 8 rfl (World.shaped_of_RefB (by kernel_rfl) (by kernel_rfl)) (by kernel_rfl) (by kernel_rfl) (by kernel_rfl) (Go.Oct.Shop.door_met os _))
  match ds, hd with
  | [d0, d1, d2], _ => rfl
theorem ShopSaws_row : Rows.ShopSawsSaid :=
  OpenClaim.holds_of_wide 5 Tryd.f5 rfl rfl rfl rfl rfl rfl rfl ⟨rfl, rfl, rfl, rfl, rfl⟩ rfl rfl rfl rfl rfl (by kernel_rfl) Tryd.func5 (by kernel_rfl)
    (of_decide_eq_true (by kernel_rfl)) (by unfold Func.isWrapper; first | (rw [if_pos (by decide +kernel)]; kernel_rfl) | (rw [if_neg (by decide +kernel)]; exact ⟨rfl, rfl⟩))
    (fun os started H enc _ => shopSaws_lifted os started H enc)
theorem ShopSaws_holds : Rows.ShopSawsCardSaid :=
  Claim7.holds_tied_plain_at .later [] [.funcs] true Rows.shopSawsCard.stood.harness false
    ShopSaws_row (fun _ h => by cases h) (by kernel_rfl) (fun _ h => by cases h) shopSaws_row_tie rfl ⟨rfl, rfl⟩ (by kernel_rfl) rfl
    (fun f fn hf hfn => by
      obtain rfl : f = 5 := Option.some.inj ((show Tryd.prog.funcNamed Tryd.f5.name = some 5 by kernel_rfl).symm.trans hf) |>.symm
      obtain rfl : fn = Tryd.f5 := (Option.some.inj (Tryd.func5.symm.trans hfn)).symm
      exact ⟨by kernel_rfl, fun j t ht => by
        have hm : t ∈ Tryd.f5.params.toList := Array.mem_toList_iff.2 (Array.mem_of_getElem? ht)
        have hall : (Tryd.f5.params.toList.all fun u => !Tryd.prog.wantsStandIn u) = true := by kernel_rfl
        exact (show Tryd.prog.wantsStandIn t = false by simpa using List.all_eq_true.1 hall t hm)⟩)
    (by kernel_rfl)
end Go.Proofs.YtpgjndgpackffaaDoor
