/- ScrewPeriods: its row. -/
import Derived.Test.YtcbiofokeadddaaOScrewPer2
import Derived.Test.YtcbiofokeadddaaOT3
import Derived.Test.YtcbiofokeadddaaRows
set_option maxRecDepth 100000
namespace Go.Proofs.Ytcbiofokeadddaa
open Go.ChangeShapes Go.WideShapes Go.ChangeAt Go.RowKit Go.Oct
theorem oNone {f : Nat} {avs : List AV} {σ : AH} (h : f ≠ 24) : Go.Oct.Screw.O (.fn f) avs σ = none := by
  cases avs with
  | nil => exact (Go.Oct.Screw.oo (args := []) h).2 σ
  | cons a r => exact (Go.Oct.Screw.oo (args := []) h).1 (a :: r) σ (by simp)
theorem ScrewPeriods_ans (avs : List AV) (h : ArgsAre [(false, [.sl true [.int .i64, .int .i64]])] avs) : ans Go.Oct.Screw.prog Go.Oct.Screw.O 6 avs = some (.bool true) := by
  obtain ⟨x, xs, rfl, hx, h⟩ := h.one
  obtain rfl := h.nil
  obtain ⟨nl, l, hs⟩ := hx.inv_spans
  rw [hs.eq]
  exact Go.Oct.Screw.ScrewPeriods_ok nl l (by have := hs.len; omega)
theorem screwPeriods_lifted (os : Os) (started : os.Started) (H : Type) (enc : TypeId × Value → H) :
    ReturnsInHanded {} Try.checked os 6 .any (Rows.screwPeriodsSpec.pre6 enc Try.prog Try.f6 Rows.screwPeriodsRow.domain false) (Rows.screwPeriodsSpec.post enc Try.prog Try.f6 false true false false) := by
  refine law_lifted (p := Go.Oct.Screw.prog) (tb := 4) Try.checked Go.Oct.Screw.compP Go.Oct.Screw.fol Go.Oct.Screw.oracleOK (by kernel_rfl) (by kernel_rfl) (by kernel_rfl) Try.func6 rfl (by kernel_rfl) (by kernel_rfl) (by kernel_rfl) (shs := [(false, [.sl true [.int .i64, .int .i64]])]) (by kernel_rfl) (by decide +kernel) (fun H ds hd => ?_) (fun avs σ => oNone (by decide)) ScrewPeriods_ans os started H enc
    (ChangeSpec.witness6 (enc := enc) (C := Try.checked) false ⟨#[], #[.slice none 0 0], []⟩ 8 (by kernel_rfl) (by kernel_rfl) (by kernel_rfl) (by kernel_rfl))
  match ds, hd with
  | [d], _ => rfl
theorem ScrewPeriods_holds : Rows.ScrewPeriodsSaid :=
  OpenClaim.holds_of_wide 6 Try.f6 rfl rfl rfl rfl rfl rfl rfl ⟨rfl, rfl, rfl, rfl, rfl⟩ rfl rfl rfl rfl rfl (by kernel_rfl) Try.func6 (by kernel_rfl)
    (of_decide_eq_true (by kernel_rfl)) (by unfold Func.isWrapper; first | (rw [if_pos (by decide +kernel)]; kernel_rfl) | (rw [if_neg (by decide +kernel)]; exact ⟨rfl, rfl⟩))
    (fun os started H enc _ => screwPeriods_lifted os started H enc)
end Go.Proofs.Ytcbiofokeadddaa
