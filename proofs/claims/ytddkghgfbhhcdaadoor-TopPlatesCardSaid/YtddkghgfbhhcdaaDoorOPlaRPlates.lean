/- TopPlates: it answers true at all arguments of its kinds, and leaves them as they were; no conditions but what the package-level variable holds at the start, which the card ties to the program's text. -/
import Derived.Test.YtddkghgfbhhcdaaDoorOPlaPlaL
import Derived.Test.YtddkghgfbhhcdaaDoorOPlaGl
import Derived.Test.YtddkghgfbhhcdaaDoorOT3
import Derived.SevenTiedAt
import Derived.ProofKit
import Derived.HandedShaped
import Derived.Test.YtddkghgfbhhcdaaDoorRows
import Derived.Test.YtddkghgfbhhcdaaDoorTie
import Derived.Test.YtddkghgfbhhcdaaDoorCards
set_option maxRecDepth 100000
set_option linter.unusedVariables false
namespace Go.Proofs.YtddkghgfbhhcdaaDoor
open Go.ChangeShapes Go.WideShapes Go.ChangeAt Go.RowKit Go.Oct
theorem TopPlates_ans (avs : List AV) (h0 : ArgsAre [(true, [.sl false [.int .i64], .int .i64, .sl true [.int .i64, .int .i64, .int .i64, .int .i64, .int .i64, .int .i64], .sl false [.sl false [.int .i64]]]), (true, [.int .i64, .int .i64, .int .i64])] avs) : ans Go.Oct.Pla.prog Go.Oct.Pla.O 3 avs = some (.bool true) := by
  obtain ⟨x0, xs0, rfl, hx0, h1⟩ := h0.agg
  obtain ⟨c0, r0, rfl, hc0, hr0⟩ := hx0.uncons
  obtain ⟨d0, s0, rfl, hd0, ht0⟩ := hr0.uncons
  obtain ⟨e0, u0, rfl, he0, hu0⟩ := ht0.uncons
  obtain ⟨f0, rfl, hf0⟩ := hu0.one
  obtain ⟨nl0, l0, hs0⟩ := hc0.inv_ints
  obtain rfl := hs0.eq
  obtain ⟨n0, rfl, hn0⟩ := hd0.inv_int
  obtain ⟨nr0, k0, hk0⟩ := Go.Oct.Pla.inv_reads he0
  obtain rfl := hk0.eq
  obtain ⟨ne0, m0, hm0⟩ := hf0.inv_rows
  obtain rfl := hm0.eq
  obtain ⟨x1, xs1, rfl, hx1, h2⟩ := h1.agg
  obtain ⟨c1, r1, rfl, hc1, hr1⟩ := hx1.uncons
  obtain ⟨d1, s1, rfl, hd1, ht1⟩ := hr1.uncons
  obtain ⟨e1, rfl, he1⟩ := ht1.one
  obtain ⟨n1, rfl, hn1⟩ := hc1.inv_int
  obtain ⟨m1, rfl, hm1⟩ := hd1.inv_int
  obtain ⟨o1, rfl, ho1⟩ := he1.inv_int
  obtain rfl := h2.nil
  exact Go.Oct.Pla.TopPlates_ok nl0 l0 n0 nr0 k0 ne0 m0 n1 m1 o1 hs0 hk0 hm0
theorem topPlates_lifted (os : Os) (started : os.Started) (H : Type) (enc : TypeId × Value → H) :
    ReturnsInHanded {} Tryd.checked os 3 .any (fun w args => (Rows.topPlatesSpec.pre enc Tryd.prog Tryd.f3 [] false w args ∧ laidMetH Tryd.prog Go.Oct.Pla.laidL w) ∧ sizedMet enc Tryd.prog Tryd.f3 (OpenSpec.ofChange Rows.topPlatesSpec) false w args)
      (Rows.topPlatesSpec.post enc Tryd.prog Tryd.f3 false true false false) := by
  refine law_laid (p := Go.Oct.Pla.prog) (tb := 4) Tryd.checked Go.Oct.Pla.compP Go.Oct.Pla.fol Go.Oct.Pla.oracleOK (by kernel_rfl) (by kernel_rfl) (by kernel_rfl) Tryd.func3 rfl (by kernel_rfl) (by kernel_rfl) (by kernel_rfl) (shs := [(true, [.sl false [.int .i64], .int .i64, .sl true [.int .i64, .int .i64, .int .i64, .int .i64, .int .i64, .int .i64], .sl false [.sl false [.int .i64]]]), (true, [.int .i64, .int .i64, .int .i64])]) (by kernel_rfl) (by decide +kernel) (fun H ds hd => ?_) (fun avs σ => Go.Oct.Pla.oNone (by decide)) TopPlates_ans Go.Oct.Pla.gl_at os started H enc
    (ChangeSpec.witness_shaped (enc := enc) (C := Tryd.checked) (os := os) (X := fun w _ => laidMetH Tryd.prog Go.Oct.Pla.laidL w) false (World.doorLaid Tryd.prog 14 os) #[.agg #[.slice none 0 0, .int .i64 0, .slice none 0 0, .slice none 0 0], .agg #[.int .i64 0, .int .i64 0, .int .i64 0]] 8 rfl (World.shaped_of_RefB (by kernel_rfl) (by kernel_rfl)) (by kernel_rfl) (by kernel_rfl) (by kernel_rfl) (Go.Oct.Pla.door_met os _))
  match ds, hd with
  | [d0, d1], _ => rfl
theorem TopPlates_row : Rows.TopPlatesSaid :=
  OpenClaim.holds_of_wide 3 Tryd.f3 rfl rfl rfl rfl rfl rfl rfl ⟨rfl, rfl, rfl, rfl, rfl⟩ rfl rfl rfl rfl rfl (by kernel_rfl) Tryd.func3 (by kernel_rfl)
    (of_decide_eq_true (by kernel_rfl)) (by unfold Func.isWrapper; first | (rw [if_pos (by decide +kernel)]; kernel_rfl) | (rw [if_neg (by decide +kernel)]; exact ⟨rfl, rfl⟩))
    (fun os started H enc _ => topPlates_lifted os started H enc)
theorem TopPlates_holds : Rows.TopPlatesCardSaid :=
  Claim7.holds_tied_plain_at .later [] [.data] true Rows.topPlatesCard.stood.harness false
    TopPlates_row (fun _ h => by cases h) (by kernel_rfl) (fun _ h => by cases h) topPlates_row_tie rfl ⟨rfl, rfl⟩ (by kernel_rfl) rfl
    (fun f fn hf hfn => by
      obtain rfl : f = 3 := Option.some.inj ((show Tryd.prog.funcNamed Tryd.f3.name = some 3 by kernel_rfl).symm.trans hf) |>.symm
      obtain rfl : fn = Tryd.f3 := (Option.some.inj (Tryd.func3.symm.trans hfn)).symm
      exact ⟨by kernel_rfl, fun j t ht => by
        have hm : t ∈ Tryd.f3.params.toList := Array.mem_toList_iff.2 (Array.mem_of_getElem? ht)
        have hall : (Tryd.f3.params.toList.all fun u => !Tryd.prog.wantsStandIn u) = true := by kernel_rfl
        exact (show Tryd.prog.wantsStandIn t = false by simpa using List.all_eq_true.1 hall t hm)⟩)
    (by kernel_rfl)
end Go.Proofs.YtddkghgfbhhcdaaDoor
