/- FixLit: it answers true at all arguments of its kinds, and leaves them as they were; no conditions but what the package-level variable holds at the start, which the card ties to the program's text. -/
import Derived.Test.YtddclpecmjibkaaDoorOFixLitW
import Derived.Test.YtddclpecmjibkaaDoorOFixGl
import Derived.Test.YtddclpecmjibkaaDoorOT3
import Derived.SevenTiedAt
import Derived.ProofKit
import Derived.HandedShaped
import Derived.Test.YtddclpecmjibkaaDoorRows
import Derived.Test.YtddclpecmjibkaaDoorTie
import Derived.Test.YtddclpecmjibkaaDoorCards
set_option maxRecDepth 100000
set_option linter.unusedVariables false
namespace Go.Proofs.YtddclpecmjibkaaDoor
open Go.ChangeShapes Go.WideShapes Go.ChangeAt Go.RowKit Go.Oct
theorem FixLit_ans (avs : List AV) (h0 : ArgsAre [(false, [.sl true [.int .i64, .int .i64]]), (true, [.int .i64, .int .i64]), (true, [.int .i64, .int .i64])] avs) : ans Go.Oct.Fix.prog Go.Oct.Fix.O 14 avs = some (.bool true) := by
  obtain ⟨x0, xs0, rfl, hx0, h1⟩ := h0.one
  obtain ⟨nl0, l0, hs0⟩ := hx0.inv_spans
  obtain rfl := hs0.eq
  obtain ⟨x1, xs1, rfl, hx1, h2⟩ := h1.agg
  obtain ⟨c1, r1, rfl, hc1, hr1⟩ := hx1.uncons
  obtain ⟨d1, rfl, hd1⟩ := hr1.one
  obtain ⟨n1, rfl, hn1⟩ := hc1.inv_int
  obtain ⟨m1, rfl, hm1⟩ := hd1.inv_int
  obtain ⟨x2, xs2, rfl, hx2, h3⟩ := h2.agg
  obtain ⟨c2, r2, rfl, hc2, hr2⟩ := hx2.uncons
  obtain ⟨d2, rfl, hd2⟩ := hr2.one
  obtain ⟨n2, rfl, hn2⟩ := hc2.inv_int
  obtain ⟨m2, rfl, hm2⟩ := hd2.inv_int
  obtain rfl := h3.nil
  exact Go.Oct.Fix.FixLit_ok nl0 l0 n1 m1 n2 m2 hs0 hn1 hm1 hn2 hm2
theorem fixLit_lifted (os : Os) (started : os.Started) (H : Type) (enc : TypeId × Value → H) :
    ReturnsInHanded {} Tryd.checked os 14 .any (fun w args => (Rows.fixLitSpec.pre enc Tryd.prog Tryd.f14 [] false w args ∧ laidMetH Tryd.prog Go.Oct.Fix.laidL w) ∧ sizedMet enc Tryd.prog Tryd.f14 (OpenSpec.ofChange Rows.fixLitSpec) false w args)
      (Rows.fixLitSpec.post enc Tryd.prog Tryd.f14 false true false false) := by
  refine law_laid (p := Go.Oct.Fix.prog) (tb := 4) Tryd.checked Go.Oct.Fix.compP Go.Oct.Fix.fol Go.Oct.Fix.oracleOK (by kernel_rfl) (by kernel_rfl) (by kernel_rfl) Tryd.func14 rfl (by kernel_rfl) (by kernel_rfl) (by kernel_rfl) (shs := [(false, [.sl true [.int .i64, .int .i64]]), (true, [.int .i64, .int .i64]), (true, [.int .i64, .int .i64])]) (by kernel_rfl) (by decide +kernel) (fun H ds hd => ?_) (fun avs σ => Go.Oct.Fix.oNone (by decide)) FixLit_ans Go.Oct.Fix.gl_at os started H enc
    (ChangeSpec.witness_shaped (enc := enc) (C := Tryd.checked) (os := os) (X := fun w _ => laidMetH Tryd.prog Go.Oct.Fix.laidL w) false (World.doorLaid Tryd.prog 14 os) #[.slice none 0 0, .agg #[.int .i64 0, .int .i64 0], .agg #[.int .i64 0, .int .i64 0]] 8 rfl (World.shaped_of_RefB (by kernel_rfl) (by kernel_rfl)) (by kernel_rfl) (by kernel_rfl) (by kernel_rfl) (Go.Oct.Fix.door_met os _))
  match ds, hd with
  | [d0, d1, d2], _ => rfl
theorem FixLit_row : Rows.FixLitSaid :=
  OpenClaim.holds_of_wide 14 Tryd.f14 rfl rfl rfl rfl rfl rfl rfl ⟨rfl, rfl, rfl, rfl, rfl⟩ rfl rfl rfl rfl rfl (by kernel_rfl) Tryd.func14 (by kernel_rfl)
    (of_decide_eq_true (by kernel_rfl)) (by unfold Func.isWrapper; first | (rw [if_pos (by decide +kernel)]; kernel_rfl) | (rw [if_neg (by decide +kernel)]; exact ⟨rfl, rfl⟩))
    (fun os started H enc _ => fixLit_lifted os started H enc)
theorem FixLit_holds : Rows.FixLitCardSaid :=
  Claim7.holds_tied_plain_at .later [] [.funcs] true Rows.fixLitCard.stood.harness false
    FixLit_row (fun _ h => by cases h) (by kernel_rfl) (fun _ h => by cases h) fixLit_row_tie rfl ⟨rfl, rfl⟩ (by kernel_rfl) rfl
    (fun f fn hf hfn => by
      obtain rfl : f = 14 := Option.some.inj ((show Tryd.prog.funcNamed Tryd.f14.name = some 14 by kernel_rfl).symm.trans hf) |>.symm
      obtain rfl : fn = Tryd.f14 := (Option.some.inj (Tryd.func14.symm.trans hfn)).symm
      exact ⟨by kernel_rfl, fun j t ht => by
        have hm : t ∈ Tryd.f14.params.toList := Array.mem_toList_iff.2 (Array.mem_of_getElem? ht)
        have hall : (Tryd.f14.params.toList.all fun u => !Tryd.prog.wantsStandIn u) = true := by kernel_rfl
        exact (show Tryd.prog.wantsStandIn t = false by simpa using List.all_eq_true.1 hall t hm)⟩)
    (by kernel_rfl)
end Go.Proofs.YtddclpecmjibkaaDoor
