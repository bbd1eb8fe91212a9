/- ShopEither: it answers true at all arguments of its kinds, and leaves them as they were; no conditions but what the package-level variable holds at the start, which the card ties to the program's text. -/
import Derived.Test.YtpgjndgpackffaaDoorOShopEitL
import Derived.Test.YtpgjndgpackffaaDoorOShopGl
import Derived.Test.YtpgjndgpackffaaDoorOT3
import Derived.SevenTiedAt
import Derived.ProofKit
import Derived.HandedShaped
import Derived.Test.YtpgjndgpackffaaDoorRows
import Derived.Test.YtpgjndgpackffaaDoorTie
import Derived.Test.YtpgjndgpackffaaDoorCards
set_option maxRecDepth 100000
set_option linter.unusedVariables false
namespace Go.Proofs.YtpgjndgpackffaaDoor
open Go.ChangeShapes Go.WideShapes Go.ChangeAt Go.RowKit Go.Oct
theorem ShopEither_ans (avs : List AV) (h0 : ArgsAre [(false, [.sl true [.int .i64, .int .i64]]), (false, [.sl false [.int .i64]]), (false, [.sl false [.int .i64]])] avs) : ans Go.Oct.Shop.prog Go.Oct.Shop.O 12 avs = some (.bool true) := by
  obtain ⟨x0, xs0, rfl, hx0, h1⟩ := h0.one
  obtain ⟨nl0, l0, hs0⟩ := Go.Oct.Shop.inv_mns hx0
  obtain rfl := hs0.eq
  obtain ⟨x1, xs1, rfl, hx1, h2⟩ := h1.one
  obtain ⟨nl1, l1, hs1⟩ := hx1.inv_ints
  obtain rfl := hs1.eq
  obtain ⟨x2, xs2, rfl, hx2, h3⟩ := h2.one
  obtain ⟨nl2, l2, hs2⟩ := hx2.inv_ints
  obtain rfl := hs2.eq
  obtain rfl := h3.nil
  exact Go.Oct.Shop.ShopEither_ok nl0 l0 nl1 l1 nl2 l2 (by have := hs0.len; omega) (by have := hs1.len; omega) (by have := hs2.len; omega)
theorem shopEither_lifted (os : Os) (started : os.Started) (H : Type) (enc : TypeId × Value → H) :
    ReturnsInHanded {} Tryd.checked os 12 .any (fun w args => (Rows.shopEitherSpec.pre enc Tryd.prog Tryd.f12 [] false w args ∧ laidMetH Tryd.prog Go.Oct.Shop.laidL w) ∧ sizedMet enc Tryd.prog Tryd.f12 (OpenSpec.ofChange Rows.shopEitherSpec) false w args)
      (Rows.shopEitherSpec.post enc Tryd.prog Tryd.f12 false true false false) := by
  refine law_laid (p := Go.Oct.Shop.prog) (tb := 4) Tryd.checked Go.Oct.Shop.compP Go.Oct.Shop.fol Go.Oct.Shop.oracleOK (by kernel_rfl) (by kernel_rfl) (by kernel_rfl) Tryd.func12 rfl (by kernel_rfl) (by kernel_rfl) (by kernel_rfl) (shs := [(false, [.sl true [.int .i64, .int .i64]]), (false, [.sl false [.int .i64]]), (false, [.sl false [.int .i64]])]) (by kernel_rfl) (by decide +kernel) (fun H ds hd => ?_) (fun avs σ => Go.Oct.Shop.oNone (by decide)) ShopEither_ans Go.Oct.Shop.gl_at os started H enc
    (ChangeSpec.witness_shaped (enc := enc) (C := Tryd.checked) (os := os) (X := fun w _ => laidMetH Tryd.prog Go.Oct.Shop.laidL w) false (World.doorLaid Tryd.prog 14 os) #[.slice none 0 0, .slice none 0 0, .slice none 0 0] 8 rfl (World.shaped_of_RefB (by kernel_rfl) (by kernel_rfl)) (by kernel_rfl) (by kernel_rfl) (by kernel_rfl) (Go.Oct.Shop.door_met os _))
  match ds, hd with
  | [d0, d1, d2], _ => rfl
theorem ShopEither_row : Rows.ShopEitherSaid :=
  OpenClaim.holds_of_wide 12 Tryd.f12 rfl rfl rfl rfl rfl rfl rfl ⟨rfl, rfl, rfl, rfl, rfl⟩ rfl rfl rfl rfl rfl (by kernel_rfl) Tryd.func12 (by kernel_rfl)
    (of_decide_eq_true (by kernel_rfl)) (by unfold Func.isWrapper; first | (rw [if_pos (by decide +kernel)]; kernel_rfl) | (rw [if_neg (by decide +kernel)]; exact ⟨rfl, rfl⟩))
    (fun os started H enc _ => shopEither_lifted os started H enc)
theorem ShopEither_holds : Rows.ShopEitherCardSaid :=
  Claim7.holds_tied_plain_at .later [] [.funcs] true Rows.shopEitherCard.stood.harness false
    ShopEither_row (fun _ h => by cases h) (by kernel_rfl) (fun _ h => by cases h) shopEither_row_tie rfl ⟨rfl, rfl⟩ (by kernel_rfl) rfl
    (fun f fn hf hfn => by
      obtain rfl : f = 12 := Option.some.inj ((show Tryd.prog.funcNamed Tryd.f12.name = some 12 by kernel_rfl).symm.trans hf) |>.symm
      obtain rfl : fn = Tryd.f12 := (Option.some.inj (Tryd.func12.symm.trans hfn)).symm
      exact ⟨by kernel_rfl, fun j t ht => by
        have hm : t ∈ Tryd.f12.params.toList := Array.mem_toList_iff.2 (Array.mem_of_getElem? ht)
        have hall : (Tryd.f12.params.toList.all fun u => !Tryd.prog.wantsStandIn u) = true := by kernel_rfl
        exact (show Tryd.prog.wantsStandIn t = false by simpa using List.all_eq_true.1 hall t hm)⟩)
    (by kernel_rfl)
end Go.Proofs.YtpgjndgpackffaaDoor
