/- FixThree: it answers true at all arguments of its kinds, and leaves them as they were; no conditions but what the package-level variable holds at the start, which the card ties to the program's text. -/
import Derived.Test.YtddclpecmjibkaaDoorOFixThrL
import Derived.Test.YtddclpecmjibkaaDoorOFixGl
import Derived.Test.YtddclpecmjibkaaDoorOT3
import Derived.SevenTiedAt
import Derived.ProofKit
import Derived.HandedShaped
import Derived.Test.YtddclpecmjibkaaDoorRows
import Derived.Test.YtddclpecmjibkaaDoorTie
import Derived.Test.YtddclpecmjibkaaDoorCards
set_option maxRecDepth 100000
set_option linter.unusedVariables false
namespace Go.Proofs.YtddclpecmjibkaaDoor
open Go.ChangeShapes Go.WideShapes Go.ChangeAt Go.RowKit Go.Oct
theorem FixThree_ans (avs : List AV) (h0 : ArgsAre [(true, [.int .i64, .int .i64, .int .i64, .int .i64, .sl true [.int .i64, .int .i64, .int .i64, .int .i64, .int .i64, .int .i64, .int .i64, .int .i64, .int .i64, .sl true [.int .i64, .int .i64]]]), (false, [.sl true [.int .i64, .int .i64]]), (true, [.int .i64, .int .i64, .int .i64, .int .i64, .int .i64, .int .i64]), (true, [.int .i64, .int .i64])] avs) : ans Go.Oct.Fix.prog Go.Oct.Fix.O 12 avs = some (.bool true) := by
  obtain ⟨x0, xs0, rfl, hx0, h1⟩ := h0.agg
  obtain ⟨c00, r00, rfl, hc00, hr00⟩ := hx0.uncons
  obtain ⟨c10, r10, rfl, hc10, hr10⟩ := hr00.uncons
  obtain ⟨c20, r20, rfl, hc20, hr20⟩ := hr10.uncons
  obtain ⟨c30, r30, rfl, hc30, hr30⟩ := hr20.uncons
  obtain ⟨c40, rfl, hc40⟩ := hr30.one
  obtain ⟨n00, rfl, hn00⟩ := hc00.inv_int
  obtain ⟨n10, rfl, hn10⟩ := hc10.inv_int
  obtain ⟨n20, rfl, hn20⟩ := hc20.inv_int
  obtain ⟨n30, rfl, hn30⟩ := hc30.inv_int
  obtain ⟨nS0, S0, hs0⟩ := Go.Oct.Fix.inv_stps hc40
  obtain rfl := hs0.eq
  obtain ⟨x1, xs1, rfl, hx1, h2⟩ := h1.one
  obtain ⟨nl1, l1, hs1⟩ := hx1.inv_spans
  obtain rfl := hs1.eq
  obtain ⟨x2, xs2, rfl, hx2, h3⟩ := h2.agg
  obtain ⟨c02, r02, rfl, hc02, hr02⟩ := hx2.uncons
  obtain ⟨c12, r12, rfl, hc12, hr12⟩ := hr02.uncons
  obtain ⟨c22, r22, rfl, hc22, hr22⟩ := hr12.uncons
  obtain ⟨c32, r32, rfl, hc32, hr32⟩ := hr22.uncons
  obtain ⟨c42, r42, rfl, hc42, hr42⟩ := hr32.uncons
  obtain ⟨c52, rfl, hc52⟩ := hr42.one
  obtain ⟨n02, rfl, hn02⟩ := hc02.inv_int
  obtain ⟨n12, rfl, hn12⟩ := hc12.inv_int
  obtain ⟨n22, rfl, hn22⟩ := hc22.inv_int
  obtain ⟨n32, rfl, hn32⟩ := hc32.inv_int
  obtain ⟨n42, rfl, hn42⟩ := hc42.inv_int
  obtain ⟨n52, rfl, hn52⟩ := hc52.inv_int
  obtain ⟨x3, xs3, rfl, hx3, h4⟩ := h3.agg
  obtain ⟨c3, r3, rfl, hc3, hr3⟩ := hx3.uncons
  obtain ⟨d3, rfl, hd3⟩ := hr3.one
  obtain ⟨n3, rfl, hn3⟩ := hc3.inv_int
  obtain ⟨m3, rfl, hm3⟩ := hd3.inv_int
  obtain rfl := h4.nil
  exact Go.Oct.Fix.FixThree_ok ⟨n00, n10⟩ ⟨n20, n30⟩ nS0 S0 nl1 l1 ⟨n02, n12⟩ ⟨n22, n32⟩ ⟨n42, n52⟩ n3 m3 hs0 ⟨hn00, hn10⟩ ⟨hn20, hn30⟩ hs1 ⟨hn02, hn12⟩ ⟨hn22, hn32⟩ ⟨hn42, hn52⟩ hn3 hm3
theorem fixThree_lifted (os : Os) (started : os.Started) (H : Type) (enc : TypeId × Value → H) :
    ReturnsInHanded {} Tryd.checked os 12 .any (fun w args => (Rows.fixThreeSpec.pre enc Tryd.prog Tryd.f12 [] false w args ∧ laidMetH Tryd.prog Go.Oct.Fix.laidL w) ∧ sizedMet enc Tryd.prog Tryd.f12 (OpenSpec.ofChange Rows.fixThreeSpec) false w args)
      (Rows.fixThreeSpec.post enc Tryd.prog Tryd.f12 false true false false) := by
  refine law_laid (p := Go.Oct.Fix.prog) (tb := 4) Tryd.checked Go.Oct.Fix.compP Go.Oct.Fix.fol Go.Oct.Fix.oracleOK (by kernel_rfl) (by kernel_rfl) (by kernel_rfl) Tryd.func12 rfl (by kernel_rfl) (by kernel_rfl) (by kernel_rfl) (shs := [(true, [.int .i64, .int .i64, .int .i64, .int .i64, .sl true [.int .i64, .int .i64, .int .i64, .int .i64, .int .i64, .int .i64, .int .i64, .int .i64, .int .i64, .sl true [.int .i64, .int .i64]]]), (false, [.sl true [.int .i64, .int .i64]]), (true, [.int .i64, .int .i64, .int .i64, .int .i64, .int .i64, .int .i64]), (true, [.int .i64, .int .i64])]) (by kernel_rfl) (by decide +kernel) (fun H ds hd => ?_) (fun avs σ => Go.Oct.Fix.oNone (by decide)) FixThree_ans Go.Oct.Fix.gl_at os started H enc
    (ChangeSpec.witness_shaped (enc := enc) (C := Tryd.checked) (os := os) (X := fun w _ => laidMetH Tryd.prog Go.Oct.Fix.laidL w) false (World.doorLaid Tryd.prog 14 os) #[.agg #[.int .i64 0, .int .i64 0, .int .i64 0, .int .i64 0, .slice none 0 0], .slice none 0 0, .agg #[.int .i64 0, .int .i64 0, .int .i64 0, .int .i64 0, .int .i64 0, .int .i64 0], .agg #[.int .i64 0, .int .i64 0]] 8 rfl (World.shaped_of_RefB (by kernel_rfl) (by kernel_rfl)) (by kernel_rfl) (by kernel_rfl) (by kernel_rfl) (Go.Oct.Fix.door_met os _))
  match ds, hd with
  | [d0, d1, d2, d3], _ => rfl
theorem FixThree_row : Rows.FixThreeSaid :=
  OpenClaim.holds_of_wide 12 Tryd.f12 rfl rfl rfl rfl rfl rfl rfl ⟨rfl, rfl, rfl, rfl, rfl⟩ rfl rfl rfl rfl rfl (by kernel_rfl) Tryd.func12 (by kernel_rfl)
    (of_decide_eq_true (by kernel_rfl)) (by unfold Func.isWrapper; first | (rw [if_pos (by decide +kernel)]; kernel_rfl) | (rw [if_neg (by decide +kernel)]; exact ⟨rfl, rfl⟩))
    (fun os started H enc _ => fixThree_lifted os started H enc)
theorem FixThree_holds : Rows.FixThreeCardSaid :=
  Claim7.holds_tied_plain_at .later [] [.funcs] true Rows.fixThreeCard.stood.harness false
    FixThree_row (fun _ h => by cases h) (by kernel_rfl) (fun _ h => by cases h) fixThree_row_tie rfl ⟨rfl, rfl⟩ (by kernel_rfl) rfl
    (fun f fn hf hfn => by
      obtain rfl : f = 12 := Option.some.inj ((show Tryd.prog.funcNamed Tryd.f12.name = some 12 by kernel_rfl).symm.trans hf) |>.symm
      obtain rfl : fn = Tryd.f12 := (Option.some.inj (Tryd.func12.symm.trans hfn)).symm
      exact ⟨by kernel_rfl, fun j t ht => by
        have hm : t ∈ Tryd.f12.params.toList := Array.mem_toList_iff.2 (Array.mem_of_getElem? ht)
        have hall : (Tryd.f12.params.toList.all fun u => !Tryd.prog.wantsStandIn u) = true := by kernel_rfl
        exact (show Tryd.prog.wantsStandIn t = false by simpa using List.all_eq_true.1 hall t hm)⟩)
    (by kernel_rfl)
end Go.Proofs.YtddclpecmjibkaaDoor
