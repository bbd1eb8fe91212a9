/- TopStockbook: it answers true at all arguments of its kinds, and leaves them as they were; no conditions but what the package-level variable holds at the start, which the card ties to the program's text. -/
import Derived.Test.YtddkghgfbhhcdaaGreatDoorOStkStbL
import Derived.Test.YtddkghgfbhhcdaaGreatDoorOStkGl
import Derived.Test.YtddkghgfbhhcdaaGreatDoorOT3
import Derived.SevenTiedAt
import Derived.ProofKit
import Derived.HandedShaped
import Derived.Test.YtddkghgfbhhcdaaGreatDoorRows
import Derived.Test.YtddkghgfbhhcdaaGreatDoorTie
import Derived.Test.YtddkghgfbhhcdaaGreatDoorCards
set_option maxRecDepth 100000
set_option linter.unusedVariables false
namespace Go.Proofs.YtddkghgfbhhcdaaGreatDoor
open Go.ChangeShapes Go.WideShapes Go.ChangeAt Go.RowKit Go.Oct
theorem TopStockbook_ans (avs : List AV) (h0 : ArgsAre [(false, [.sl true [.int .i64, .int .i64, .int .i64]]), (false, [.int .i64]), (false, [.sl false [.int .i64]])] avs) : ans Go.Oct.Stk.prog Go.Oct.Stk.O 4 avs = some (.bool true) := by
  obtain ⟨x0, xs0, rfl, hx0, h1⟩ := h0.one
  obtain ⟨nl0, l0, hs0⟩ := Go.Oct.Stk.Sh.inv_pcs hx0
  obtain rfl := hs0.eq
  obtain ⟨x1, xs1, rfl, hx1, h2⟩ := h1.one
  obtain ⟨n1, rfl, hn1⟩ := hx1.inv_int
  obtain ⟨x2, xs2, rfl, hx2, h3⟩ := h2.one
  obtain ⟨nl2, l2, hs2⟩ := hx2.inv_ints
  obtain rfl := hs2.eq
  obtain rfl := h3.nil
  exact Go.Oct.Stk.TopStockbook_ok nl0 l0 n1 nl2 l2 hs0 hn1 hs2
theorem topStockbook_lifted (os : Os) (started : os.Started) (H : Type) (enc : TypeId × Value → H) :
    ReturnsInHanded {} Tryz.checked os 4 .any (fun w args => (Rows.topStockbookSpec.pre enc Tryz.prog Tryz.f4 [] false w args ∧ laidMetH Tryz.prog Go.Oct.Stk.laidL w) ∧ sizedMet enc Tryz.prog Tryz.f4 (OpenSpec.ofChange Rows.topStockbookSpec) false w args)
      (Rows.topStockbookSpec.post enc Tryz.prog Tryz.f4 false true false false) := by
  refine law_laid (p := Go.Oct.Stk.prog) (tb := 4) Tryz.checked Go.Oct.Stk.compP Go.Oct.Stk.fol Go.Oct.Stk.oracleOK (by kernel_rfl) (by kernel_rfl) (by kernel_rfl) Tryz.func4 rfl (by kernel_rfl) (by kernel_rfl) (by kernel_rfl) (shs := [(false, [.sl true [.int .i64, .int .i64, .int .i64]]), (false, [.int .i64]), (false, [.sl false [.int .i64]])]) (by kernel_rfl) (by decide +kernel) (fun H ds hd => ?_) (fun avs σ => Go.Oct.Stk.oNone (by decide)) TopStockbook_ans Go.Oct.Stk.gl_at os started H enc
    (ChangeSpec.witness_shaped (enc := enc) (C := Tryz.checked) (os := os) (X := fun w _ => laidMetH Tryz.prog Go.Oct.Stk.laidL w) false (World.doorLaid Tryz.prog 14 os) #[.slice none 0 0, .int .i64 0, .slice none 0 0] 8 rfl (World.shaped_of_RefB (by kernel_rfl) (by kernel_rfl)) (by kernel_rfl) (by kernel_rfl) (by kernel_rfl) (Go.Oct.Stk.door_met os _))
  match ds, hd with
  | [d0, d1, d2], _ => rfl
theorem TopStockbook_row : Rows.TopStockbookSaid :=
  OpenClaim.holds_of_wide 4 Tryz.f4 rfl rfl rfl rfl rfl rfl rfl ⟨rfl, rfl, rfl, rfl, rfl⟩ rfl rfl rfl rfl rfl (by kernel_rfl) Tryz.func4 (by kernel_rfl)
    (of_decide_eq_true (by kernel_rfl)) (by unfold Func.isWrapper; first | (rw [if_pos (by decide +kernel)]; kernel_rfl) | (rw [if_neg (by decide +kernel)]; exact ⟨rfl, rfl⟩))
    (fun os started H enc _ => topStockbook_lifted os started H enc)
theorem TopStockbook_holds : Rows.TopStockbookCardSaid :=
  Claim7.holds_tied_plain_at .later [] [.funcs] true Rows.topStockbookCard.stood.harness false
    TopStockbook_row (fun _ h => by cases h) (by kernel_rfl) (fun _ h => by cases h) topStockbook_row_tie rfl ⟨rfl, rfl⟩ (by kernel_rfl) rfl
    (fun f fn hf hfn => by
      obtain rfl : f = 4 := Option.some.inj ((show Tryz.prog.funcNamed Tryz.f4.name = some 4 by kernel_rfl).symm.trans hf) |>.symm
      obtain rfl : fn = Tryz.f4 := (Option.some.inj (Tryz.func4.symm.trans hfn)).symm
      exact ⟨by kernel_rfl, fun j t ht => by
        have hm : t ∈ Tryz.f4.params.toList := Array.mem_toList_iff.2 (Array.mem_of_getElem? ht)
        have hall : (Tryz.f4.params.toList.all fun u => !Tryz.prog.wantsStandIn u) = true := by kernel_rfl
        exact (show Tryz.prog.wantsStandIn t = false by simpa using List.all_eq_true.1 hall t hm)⟩)
    (by kernel_rfl)
end Go.Proofs.YtddkghgfbhhcdaaGreatDoor
