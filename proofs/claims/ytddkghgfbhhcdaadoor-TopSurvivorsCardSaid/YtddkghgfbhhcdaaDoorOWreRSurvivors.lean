/- TopSurvivors: it answers true at all arguments of its kinds, and leaves them as they were; no conditions but what the package-level variable holds at the start, which the card ties to the program's text. -/
import Derived.Test.YtddkghgfbhhcdaaDoorOWreSurL
import Derived.Test.YtddkghgfbhhcdaaDoorOWreGl
import Derived.Test.YtddkghgfbhhcdaaDoorOT3
import Derived.SevenTiedAt
import Derived.ProofKit
import Derived.HandedShaped
import Derived.Test.YtddkghgfbhhcdaaDoorRows
import Derived.Test.YtddkghgfbhhcdaaDoorTie
import Derived.Test.YtddkghgfbhhcdaaDoorCards
set_option maxRecDepth 100000
set_option linter.unusedVariables false
namespace Go.Proofs.YtddkghgfbhhcdaaDoor
open Go.ChangeShapes Go.WideShapes Go.ChangeAt Go.RowKit Go.Oct
theorem TopSurvivors_ans (avs : List AV) (h0 : ArgsAre [(true, [.int .i64, .int .i64, .int .i64, .int .i64]), (true, [.int .i64, .int .i64, .int .i64, .int .i64, .int .i64, .int .i64]), (false, [.sl false [.int .i64]])] avs) : ans Go.Oct.Wre.prog Go.Oct.Wre.O 4 avs = some (.bool true) := by
  obtain ⟨x0, xs0, rfl, hx0, h1⟩ := h0.agg
  obtain ⟨c00, r00, rfl, hc00, hr00⟩ := hx0.uncons
  obtain ⟨c10, r10, rfl, hc10, hr10⟩ := hr00.uncons
  obtain ⟨c20, r20, rfl, hc20, hr20⟩ := hr10.uncons
  obtain ⟨c30, rfl, hc30⟩ := hr20.one
  obtain ⟨n00, rfl, hn00⟩ := hc00.inv_int
  obtain ⟨n10, rfl, hn10⟩ := hc10.inv_int
  obtain ⟨n20, rfl, hn20⟩ := hc20.inv_int
  obtain ⟨n30, rfl, hn30⟩ := hc30.inv_int
  obtain ⟨x1, xs1, rfl, hx1, h2⟩ := h1.agg
  obtain ⟨c01, r01, rfl, hc01, hr01⟩ := hx1.uncons
  obtain ⟨c11, r11, rfl, hc11, hr11⟩ := hr01.uncons
  obtain ⟨c21, r21, rfl, hc21, hr21⟩ := hr11.uncons
  obtain ⟨c31, r31, rfl, hc31, hr31⟩ := hr21.uncons
  obtain ⟨c41, r41, rfl, hc41, hr41⟩ := hr31.uncons
  obtain ⟨c51, rfl, hc51⟩ := hr41.one
  obtain ⟨n01, rfl, hn01⟩ := hc01.inv_int
  obtain ⟨n11, rfl, hn11⟩ := hc11.inv_int
  obtain ⟨n21, rfl, hn21⟩ := hc21.inv_int
  obtain ⟨n31, rfl, hn31⟩ := hc31.inv_int
  obtain ⟨n41, rfl, hn41⟩ := hc41.inv_int
  obtain ⟨n51, rfl, hn51⟩ := hc51.inv_int
  obtain ⟨x2, xs2, rfl, hx2, h3⟩ := h2.one
  obtain ⟨nl2, l2, hs2⟩ := hx2.inv_ints
  obtain rfl := hs2.eq
  obtain rfl := h3.nil
  exact Go.Oct.Wre.TopSurvivors_ok ⟨n00, n10⟩ ⟨n20, n30⟩ ⟨n01, n11⟩ ⟨n21, n31⟩ ⟨n41, n51⟩ nl2 l2 hs2
theorem topSurvivors_lifted (os : Os) (started : os.Started) (H : Type) (enc : TypeId × Value → H) :
    ReturnsInHanded {} Tryd.checked os 4 .any (fun w args => (Rows.topSurvivorsSpec.pre enc Tryd.prog Tryd.f4 [] false w args ∧ laidMetH Tryd.prog Go.Oct.Wre.laidL w) ∧ sizedMet enc Tryd.prog Tryd.f4 (OpenSpec.ofChange Rows.topSurvivorsSpec) false w args)
      (Rows.topSurvivorsSpec.post enc Tryd.prog Tryd.f4 false true false false) := by
  refine law_laid (p := Go.Oct.Wre.prog) (tb := 4) Tryd.checked Go.Oct.Wre.compP Go.Oct.Wre.fol Go.Oct.Wre.oracleOK (by kernel_rfl) (by kernel_rfl) (by kernel_rfl) Tryd.func4 rfl (by kernel_rfl) (by kernel_rfl) (by kernel_rfl) (shs := [(true, [.int .i64, .int .i64, .int .i64, .int .i64]), (true, [.int .i64, .int .i64, .int .i64, .int .i64, .int .i64, .int .i64]), (false, [.sl false [.int .i64]])]) (by kernel_rfl) (by decide +kernel) (fun H ds hd => ?_) (fun avs σ => Go.Oct.Wre.oNone (by decide)) TopSurvivors_ans Go.Oct.Wre.gl_at os started H enc
    (ChangeSpec.witness_shaped (enc := enc) (C := Tryd.checked) (os := os) (X := fun w _ => laidMetH Tryd.prog Go.Oct.Wre.laidL w) false (World.doorLaid Tryd.prog 14 os) #[.agg #[.int .i64 0, .int .i64 0, .int .i64 0, .int .i64 0], .agg #[.int .i64 0, .int .i64 0, .int .i64 0, .int .i64 0, .int .i64 0, .int .i64 0], .slice none 0 0] 8 rfl (World.shaped_of_RefB (by kernel_rfl) (by kernel_rfl)) (by kernel_rfl) (by kernel_rfl) (by kernel_rfl) (Go.Oct.Wre.door_met os _))
  match ds, hd with
  | [d0, d1, d2], _ => rfl
theorem TopSurvivors_row : Rows.TopSurvivorsSaid :=
  OpenClaim.holds_of_wide 4 Tryd.f4 rfl rfl rfl rfl rfl rfl rfl ⟨rfl, rfl, rfl, rfl, rfl⟩ rfl rfl rfl rfl rfl (by kernel_rfl) Tryd.func4 (by kernel_rfl)
    (of_decide_eq_true (by kernel_rfl)) (by unfold Func.isWrapper; first | (rw [if_pos (by decide +kernel)]; kernel_rfl) | (rw [if_neg (by decide +kernel)]; exact ⟨rfl, rfl⟩))
    (fun os started H enc _ => topSurvivors_lifted os started H enc)
theorem TopSurvivors_holds : Rows.TopSurvivorsCardSaid :=
  Claim7.holds_tied_plain_at .later [] [.funcs] true Rows.topSurvivorsCard.stood.harness false
    TopSurvivors_row (fun _ h => by cases h) (by kernel_rfl) (fun _ h => by cases h) topSurvivors_row_tie rfl ⟨rfl, rfl⟩ (by kernel_rfl) rfl
    (fun f fn hf hfn => by
      obtain rfl : f = 4 := Option.some.inj ((show Tryd.prog.funcNamed Tryd.f4.name = some 4 by kernel_rfl).symm.trans hf) |>.symm
      obtain rfl : fn = Tryd.f4 := (Option.some.inj (Tryd.func4.symm.trans hfn)).symm
      exact ⟨by kernel_rfl, fun j t ht => by
        have hm : t ∈ Tryd.f4.params.toList := Array.mem_toList_iff.2 (Array.mem_of_getElem? ht)
        have hall : (Tryd.f4.params.toList.all fun u => !Tryd.prog.wantsStandIn u) = true := by kernel_rfl
        exact (show Tryd.prog.wantsStandIn t = false by simpa using List.all_eq_true.1 hall t hm)⟩)
    (by kernel_rfl)
end Go.Proofs.YtddkghgfbhhcdaaDoor
