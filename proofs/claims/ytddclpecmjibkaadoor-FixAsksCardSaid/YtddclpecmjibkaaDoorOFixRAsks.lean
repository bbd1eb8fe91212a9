/- FixAsks: it answers true at all arguments of its kinds, and leaves them as they were; no conditions but what the package-level variable holds at the start, which the card ties to the program's text. -/
import Derived.Test.YtddclpecmjibkaaDoorOFixRefX
import Derived.Test.YtddclpecmjibkaaDoorOFixGl
import Derived.Test.YtddclpecmjibkaaDoorOT3
import Derived.SevenTiedAt
import Derived.ProofKit
import Derived.HandedShaped
import Derived.Test.YtddclpecmjibkaaDoorRows
import Derived.Test.YtddclpecmjibkaaDoorTie
import Derived.Test.YtddclpecmjibkaaDoorCards
set_option maxRecDepth 100000
set_option linter.unusedVariables false
namespace Go.Proofs.YtddclpecmjibkaaDoor
open Go.ChangeShapes Go.WideShapes Go.ChangeAt Go.RowKit Go.Oct
theorem FixAsks_ans (avs : List AV) (h0 : ArgsAre [(true, [.int .i64, .int .i64, .int .i64, .int .i64, .sl true [.int .i64, .int .i64, .int .i64, .int .i64, .int .i64, .int .i64, .int .i64, .int .i64, .int .i64, .sl true [.int .i64, .int .i64]]]), (false, [.sl true [.int .i64, .int .i64, .int .i64]])] avs) : ans Go.Oct.Fix.prog Go.Oct.Fix.O 5 avs = some (.bool true) := by
  obtain ⟨x0, xs0, rfl, hx0, h1⟩ := h0.agg
  obtain ⟨c00, r00, rfl, hc00, hr00⟩ := hx0.uncons
  obtain ⟨c10, r10, rfl, hc10, hr10⟩ := hr00.uncons
  obtain ⟨c20, r20, rfl, hc20, hr20⟩ := hr10.uncons
  obtain ⟨c30, r30, rfl, hc30, hr30⟩ := hr20.uncons
  obtain ⟨c40, rfl, hc40⟩ := hr30.one
  obtain ⟨n00, rfl, hn00⟩ := hc00.inv_int
  obtain ⟨n10, rfl, hn10⟩ := hc10.inv_int
  obtain ⟨n20, rfl, hn20⟩ := hc20.inv_int
  obtain ⟨n30, rfl, hn30⟩ := hc30.inv_int
  obtain ⟨nS0, S0, hs0⟩ := Go.Oct.Fix.inv_stps hc40
  obtain rfl := hs0.eq
  obtain ⟨x1, xs1, rfl, hx1, h2⟩ := h1.one
  obtain ⟨nl1, l1, hs1⟩ := Go.Oct.Fix.inv_asks hx1
  obtain rfl := hs1.eq
  obtain rfl := h2.nil
  exact Go.Oct.Fix.FixAsks_ok ⟨n00, n10⟩ ⟨n20, n30⟩ nS0 S0 nl1 l1 hs0 ⟨hn00, hn10⟩ ⟨hn20, hn30⟩ hs1
theorem fixAsks_lifted (os : Os) (started : os.Started) (H : Type) (enc : TypeId × Value → H) :
    ReturnsInHanded {} Tryd.checked os 5 .any (fun w args => (Rows.fixAsksSpec.pre enc Tryd.prog Tryd.f5 [] false w args ∧ laidMetH Tryd.prog Go.Oct.Fix.laidL w) ∧ sizedMet enc Tryd.prog Tryd.f5 (OpenSpec.ofChange Rows.fixAsksSpec) false w args)
      (Rows.fixAsksSpec.post enc Tryd.prog Tryd.f5 false true false false) := by
  refine law_laid (p := Go.Oct.Fix.prog) (tb := 4) Tryd.checked Go.Oct.Fix.compP Go.Oct.Fix.fol Go.Oct.Fix.oracleOK (by kernel_rfl) (by kernel_rfl) (by kernel_rfl) Tryd.func5 rfl (by kernel_rfl) (by kernel_rfl) (by kernel_rfl) (shs := [(true, [.int .i64, .int .i64, .int .i64, .int .i64, .sl true [.int .i64, .int .i64, .int .i64, .int .i64, .int .i64, .int .i64, .int .i64, .int .i64, .int .i64, .sl true [.int .i64, .int .i64]]]), (false, [.sl true [.int .i64, .int .i64, .int .i64]])]) (by kernel_rfl) (by decide +kernel) (fun H ds hd => ?_) (fun avs σ => Go.Oct.Fix.oNone (by decide)) FixAsks_ans Go.Oct.Fix.gl_at os started H enc
    (ChangeSpec.witness_shaped (enc := enc) (C := Tryd.checked) (os := os) (X := fun w _ => laidMetH Tryd.prog Go.Oct.Fix.laidL w) false (World.doorLaid Tryd.prog 14 os) #[.agg #[.int .i64 0, .int .i64 0, .int .i64 0, .int .i64 0, .slice none 0 0], .slice none 0 0] 8 rfl (World.shaped_of_RefB (by kernel_rfl) (by kernel_rfl)) (by kernel_rfl) (by kernel_rfl) (by kernel_rfl) (Go.Oct.Fix.door_met os _))
  match ds, hd with
  | [d0, d1], _ => rfl
theorem FixAsks_row : Rows.FixAsksSaid :=
  OpenClaim.holds_of_wide 5 Tryd.f5 rfl rfl rfl rfl rfl rfl rfl ⟨rfl, rfl, rfl, rfl, rfl⟩ rfl rfl rfl rfl rfl (by kernel_rfl) Tryd.func5 (by kernel_rfl)
    (of_decide_eq_true (by kernel_rfl)) (by unfold Func.isWrapper; first | (rw [if_pos (by decide +kernel)]; kernel_rfl) | (rw [if_neg (by decide +kernel)]; exact ⟨rfl, rfl⟩))
    (fun os started H enc _ => fixAsks_lifted os started H enc)
theorem FixAsks_holds : Rows.FixAsksCardSaid :=
  Claim7.holds_tied_plain_at .later [] [.funcs] true Rows.fixAsksCard.stood.harness false
    FixAsks_row (fun _ h => by cases h) (by kernel_rfl) (fun _ h => by cases h) fixAsks_row_tie rfl ⟨rfl, rfl⟩ (by kernel_rfl) rfl
    (fun f fn hf hfn => by
      obtain rfl : f = 5 := Option.some.inj ((show Tryd.prog.funcNamed Tryd.f5.name = some 5 by kernel_rfl).symm.trans hf) |>.symm
      obtain rfl : fn = Tryd.f5 := (Option.some.inj (Tryd.func5.symm.trans hfn)).symm
      exact ⟨by kernel_rfl, fun j t ht => by
        have hm : t ∈ Tryd.f5.params.toList := Array.mem_toList_iff.2 (Array.mem_of_getElem? ht)
        have hall : (Tryd.f5.params.toList.all fun u => !Tryd.prog.wantsStandIn u) = true := by kernel_rfl
        exact (show Tryd.prog.wantsStandIn t = false by simpa using List.all_eq_true.1 hall t hm)⟩)
    (by kernel_rfl)
end Go.Proofs.YtddclpecmjibkaaDoor
