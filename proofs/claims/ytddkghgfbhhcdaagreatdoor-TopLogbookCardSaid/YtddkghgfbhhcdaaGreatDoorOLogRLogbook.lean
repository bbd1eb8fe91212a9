/- TopLogbook: it answers true at all arguments of its kinds, and leaves them as they were; no conditions but what the package-level variable holds at the start, which the card ties to the program's text. -/
import Derived.Test.YtddkghgfbhhcdaaGreatDoorOLogLogL
import Derived.Test.YtddkghgfbhhcdaaGreatDoorOLogGl
import Derived.Test.YtddkghgfbhhcdaaGreatDoorOT3
import Derived.SevenTiedAt
import Derived.ProofKit
import Derived.HandedShaped
import Derived.Test.YtddkghgfbhhcdaaGreatDoorRows
import Derived.Test.YtddkghgfbhhcdaaGreatDoorTie
import Derived.Test.YtddkghgfbhhcdaaGreatDoorCards
set_option maxRecDepth 100000
set_option linter.unusedVariables false
namespace Go.Proofs.YtddkghgfbhhcdaaGreatDoor
open Go.ChangeShapes Go.WideShapes Go.ChangeAt Go.RowKit Go.Oct
theorem TopLogbook_ans (avs : List AV) (h0 : ArgsAre [(true, [.int .i64, .int .i64, .int .i64, .int .i64, .int .i64, .int .i64]), (false, [.sl false [.int .i64]])] avs) : ans Go.Oct.Log.prog Go.Oct.Log.O 3 avs = some (.bool true) := by
  obtain ⟨x0, xs0, rfl, hx0, h1⟩ := h0.agg
  obtain ⟨c00, r00, rfl, hc00, hr00⟩ := hx0.uncons
  obtain ⟨c10, r10, rfl, hc10, hr10⟩ := hr00.uncons
  obtain ⟨c20, r20, rfl, hc20, hr20⟩ := hr10.uncons
  obtain ⟨c30, r30, rfl, hc30, hr30⟩ := hr20.uncons
  obtain ⟨c40, r40, rfl, hc40, hr40⟩ := hr30.uncons
  obtain ⟨c50, rfl, hc50⟩ := hr40.one
  obtain ⟨n00, rfl, hn00⟩ := hc00.inv_int
  obtain ⟨n10, rfl, hn10⟩ := hc10.inv_int
  obtain ⟨n20, rfl, hn20⟩ := hc20.inv_int
  obtain ⟨n30, rfl, hn30⟩ := hc30.inv_int
  obtain ⟨n40, rfl, hn40⟩ := hc40.inv_int
  obtain ⟨n50, rfl, hn50⟩ := hc50.inv_int
  obtain ⟨x1, xs1, rfl, hx1, h2⟩ := h1.one
  obtain ⟨nl1, l1, hs1⟩ := hx1.inv_ints
  obtain rfl := hs1.eq
  obtain rfl := h2.nil
  exact Go.Oct.Log.TopLogbook_ok ⟨n00, n10⟩ ⟨n20, n30⟩ ⟨n40, n50⟩ nl1 l1 hs1
theorem topLogbook_lifted (os : Os) (started : os.Started) (H : Type) (enc : TypeId × Value → H) :
    ReturnsInHanded {} Tryz.checked os 3 .any (fun w args => (Rows.topLogbookSpec.pre enc Tryz.prog Tryz.f3 [] false w args ∧ laidMetH Tryz.prog Go.Oct.Log.laidL w) ∧ sizedMet enc Tryz.prog Tryz.f3 (OpenSpec.ofChange Rows.topLogbookSpec) false w args)
      (Rows.topLogbookSpec.post enc Tryz.prog Tryz.f3 false true false false) := by
  refine law_laid (p := Go.Oct.Log.prog) (tb := 4) Tryz.checked Go.Oct.Log.compP Go.Oct.Log.fol Go.Oct.Log.oracleOK (by kernel_rfl) (by kernel_rfl) (by kernel_rfl) Tryz.func3 rfl (by kernel_rfl) (by kernel_rfl) (by kernel_rfl) (shs := [(true, [.int .i64, .int .i64, .int .i64, .int .i64, .int .i64, .int .i64]), (false, [.sl false [.int .i64]])]) (by kernel_rfl) (by decide +kernel) (fun H ds hd => ?_) (fun avs σ => Go.Oct.Log.oNone (by decide)) TopLogbook_ans Go.Oct.Log.gl_at os started H enc
    (ChangeSpec.witness_shaped (enc := enc) (C := Tryz.checked) (os := os) (X := fun w _ => laidMetH Tryz.prog Go.Oct.Log.laidL w) false (World.doorLaid Tryz.prog 14 os) #[.agg #[.int .i64 0, .int .i64 0, .int .i64 0, .int .i64 0, .int .i64 0, .int .i64 0], .slice none 0 0] 8 rfl (World.shaped_of_RefB (by kernel_rfl) (by kernel_rfl)) (by kernel_rfl) (by kernel_rfl) (by kernel_rfl) (Go.Oct.Log.door_met os _))
  match ds, hd with
  | [d0, d1], _ => rfl
theorem TopLogbook_row : Rows.TopLogbookSaid :=
  OpenClaim.holds_of_wide 3 Tryz.f3 rfl rfl rfl rfl rfl rfl rfl ⟨rfl, rfl, rfl, rfl, rfl⟩ rfl rfl rfl rfl rfl (by kernel_rfl) Tryz.func3 (by kernel_rfl)
    (of_decide_eq_true (by kernel_rfl)) (by unfold Func.isWrapper; first | (rw [if_pos (by decide +kernel)]; kernel_rfl) | (rw [if_neg (by decide +kernel)]; exact ⟨rfl, rfl⟩))
    (fun os started H enc _ => topLogbook_lifted os started H enc)
theorem TopLogbook_holds : Rows.TopLogbookCardSaid :=
  Claim7.holds_tied_plain_at .later [] [.funcs] true Rows.topLogbookCard.stood.harness false
    TopLogbook_row (fun _ h => by cases h) (by kernel_rfl) (fun _ h => by cases h) topLogbook_row_tie rfl ⟨rfl, rfl⟩ (by kernel_rfl) rfl
    (fun f fn hf hfn => by
      obtain rfl : f = 3 := Option.some.inj ((show Tryz.prog.funcNamed Tryz.f3.name = some 3 by kernel_rfl).symm.trans hf) |>.symm
      obtain rfl : fn = Tryz.f3 := (Option.some.inj (Tryz.func3.symm.trans hfn)).symm
      exact ⟨by kernel_rfl, fun j t ht => by
        have hm : t ∈ Tryz.f3.params.toList := Array.mem_toList_iff.2 (Array.mem_of_getElem? ht)
        have hall : (Tryz.f3.params.toList.all fun u => !Tryz.prog.wantsStandIn u) = true := by kernel_rfl
        exact (show Tryz.prog.wantsStandIn t = false by simpa using List.all_eq_true.1 hall t hm)⟩)
    (by kernel_rfl)
end Go.Proofs.YtddkghgfbhhcdaaGreatDoor
