/- ShopStored: it answers true at all arguments of its kinds, and leaves them as they were; no conditions but what the package-level variable holds at the start, which the card ties to the program's text. -/
import Derived.Test.YtpgjndgpackffaaDoorOShopStoL
import Derived.Test.YtpgjndgpackffaaDoorOShopGl
import Derived.Test.YtpgjndgpackffaaDoorOT3
import Derived.SevenTiedAt
import Derived.ProofKit
import Derived.HandedShaped
import Derived.Test.YtpgjndgpackffaaDoorRows
import Derived.Test.YtpgjndgpackffaaDoorTie
import Derived.Test.YtpgjndgpackffaaDoorCards
set_option maxRecDepth 100000
set_option linter.unusedVariables false
namespace Go.Proofs.YtpgjndgpackffaaDoor
open Go.ChangeShapes Go.WideShapes Go.ChangeAt Go.RowKit Go.Oct
theorem ShopStored_ans (avs : List AV) (h0 : ArgsAre [(true, [.sl true [.int .i64, .int .i64, .int .i64], .int .i64, .sl false [.sl false [.int .i64]]]), (true, [.int .i64, .int .i64, .sl true [.int .i64, .int .i64, .int .i64]]), (true, [.int .i64, .int .i64])] avs) : ans Go.Oct.Shop.prog Go.Oct.Shop.O 10 avs = some (.bool true) := by
  obtain ⟨x0, xs0, rfl, hx0, h1⟩ := h0.agg
  obtain ⟨c0, r0, rfl, hc0, hr0⟩ := hx0.uncons
  obtain ⟨d0, s0, rfl, hd0, hs0⟩ := hr0.uncons
  obtain ⟨e0, rfl, he0⟩ := hs0.one
  obtain ⟨nl0, l0, hl0⟩ := Go.Oct.Shop.inv_pcs hc0
  obtain rfl := hl0.eq
  obtain ⟨n0, rfl, hn0⟩ := hd0.inv_int
  obtain ⟨nP0, P0, hP0⟩ := he0.inv_rows
  obtain rfl := hP0.eq
  obtain ⟨x1, xs1, rfl, hx1, h2⟩ := h1.agg
  obtain ⟨c1, r1, rfl, hc1, hr1⟩ := hx1.uncons
  obtain ⟨d1, s1, rfl, hd1, hs1⟩ := hr1.uncons
  obtain ⟨e1, rfl, he1⟩ := hs1.one
  obtain ⟨n1, rfl, hn1⟩ := hc1.inv_int
  obtain ⟨m1, rfl, hm1⟩ := hd1.inv_int
  obtain ⟨nl1, l1, hl1⟩ := Go.Oct.Shop.inv_pcs he1
  obtain rfl := hl1.eq
  obtain ⟨x2, xs2, rfl, hx2, h3⟩ := h2.agg
  obtain ⟨c2, r2, rfl, hc2, hr2⟩ := hx2.uncons
  obtain ⟨d2, rfl, hd2⟩ := hr2.one
  obtain ⟨n2, rfl, hn2⟩ := hc2.inv_int
  obtain ⟨m2, rfl, hm2⟩ := hd2.inv_int
  obtain rfl := h3.nil
  exact Go.Oct.Shop.ShopStored_ok nl0 nP0 l0 n0 P0 nl1 ⟨n1, m1, l1⟩ n2 m2 hl0 hP0 hl1
theorem shopStored_lifted (os : Os) (started : os.Started) (H : Type) (enc : TypeId × Value → H) :
    ReturnsInHanded {} Tryd.checked os 10 .any (fun w args => (Rows.shopStoredSpec.pre enc Tryd.prog Tryd.f10 [] false w args ∧ laidMetH Tryd.prog Go.Oct.Shop.laidL w) ∧ sizedMet enc Tryd.prog Tryd.f10 (OpenSpec.ofChange Rows.shopStoredSpec) false w args)
      (Rows.shopStoredSpec.post enc Tryd.prog Tryd.f10 false true false false) := by
  refine law_laid (p := Go.Oct.Shop.prog) (tb := 4) Tryd.checked Go.Oct.Shop.compP Go.Oct.Shop.fol Go.Oct.Shop.oracleOK (by kernel_rfl) (by kernel_rfl) (by kernel_rfl) Tryd.func10 rfl (by kernel_rfl) (by kernel_rfl) (by kernel_rfl) (shs := [(true, [.sl true [.int .i64, .int .i64, .int .i64], .int .i64, .sl false [.sl false [.int .i64]]]), (true, [.int .i64, .int .i64, .sl true [.int .i64, .int .i64, .int .i64]]), (true, [.int .i64, .int .i64])]) (by kernel_rfl) (by decide +kernel) (fun H ds hd => ?_) (fun avs σ => Go.Oct.Shop.oNone (by decide)) ShopStored_ans Go.Oct.Shop.gl_at os started H enc
    (ChangeSpec.witness_shaped (enc := enc) (C := Tryd.checked) (os := os) (X := fun w _ => laidMetH Tryd.prog Go.Oct.Shop.laidL w) false (World.doorLaid Tryd.prog 14 os) #[.agg #[.slice none 0 0, .int .i64 0, .slice none 0 0], .agg #[.int .i64 0, .int .i64 0, .slice none 0 0], .agg #[.int .i64 0, .int .i64 0]] 8 rfl (World.shaped_of_RefB (by kernel_rfl) (by kernel_rfl)) (by kernel_rfl) (by kernel_rfl) (by kernel_rfl) (Go.Oct.Shop.door_met os _))
  match ds, hd with
  | [d0, d1, d2], _ => rfl
theorem ShopStored_row : Rows.ShopStoredSaid :=
  OpenClaim.holds_of_wide 10 Tryd.f10 rfl rfl rfl rfl rfl rfl rfl ⟨rfl, rfl, rfl, rfl, rfl⟩ rfl rfl rfl rfl rfl (by kernel_rfl) Tryd.func10 (by kernel_rfl)
    (of_decide_eq_true (by kernel_rfl)) (by unfold Func.isWrapper; first | (rw [if_pos (by decide +kernel)]; kernel_rfl) | (rw [if_neg (by decide +kernel)]; exact ⟨rfl, rfl⟩))
    (fun os started H enc _ => shopStored_lifted os started H enc)
theorem ShopStored_holds : Rows.ShopStoredCardSaid :=
  Claim7.holds_tied_plain_at .later [] [.funcs] true Rows.shopStoredCard.stood.harness false
    ShopStored_row (fun _ h => by cases h) (by kernel_rfl) (fun _ h => by cases h) shopStored_row_tie rfl ⟨rfl, rfl⟩ (by kernel_rfl) rfl
    (fun f fn hf hfn => by
      obtain rfl : f = 10 := Option.some.inj ((show Tryd.prog.funcNamed Tryd.f10.name = some 10 by kernel_rfl).symm.trans hf) |>.symm
      obtain rfl : fn = Tryd.f10 := (Option.some.inj (Tryd.func10.symm.trans hfn)).symm
      exact ⟨by kernel_rfl, fun j t ht => by
        have hm : t ∈ Tryd.f10.params.toList := Array.mem_toList_iff.2 (Array.mem_of_getElem? ht)
        have hall : (Tryd.f10.params.toList.all fun u => !Tryd.prog.wantsStandIn u) = true := by kernel_rfl
        exact (show Tryd.prog.wantsStandIn t = false by simpa using List.all_eq_true.1 hall t hm)⟩)
    (by kernel_rfl)
end Go.Proofs.YtpgjndgpackffaaDoor
