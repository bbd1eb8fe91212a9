/- What is known of the chapter's examples; the functions that are not run apart. -/
import Derived.Test.YtcbiofokeadddaaOScrewW
import Derived.Test.YtcbiofokeadddaaOT3
import Derived.Test.YtcbiofokeadddaaOScrewG
namespace Go.Oct.Screw
def O : Caller := trueO [24]
abbrev pl : List Nat := [96, 103, 104, 64, 95, 102]
theorem oo {g : Nat} {args : List AV} (h : g ≠ 24) : (∀ a σ, a ≠ [] → O (.fn g) a σ = none) ∧ ∀ σ, O (.fn g) args σ = none := by
  constructor
  · intro a σ ha
    cases a with
    | nil => exact absurd rfl ha
    | cons => rfl
  · intro σ
    cases args with
    | nil => simp [O, trueO, h]
    | cons => rfl
theorem oNone {f : Nat} {avs : List AV} {σ : AH} (h : f ≠ 24) : O (.fn f) avs σ = none := by
  cases avs with
  | nil => exact (oo (args := []) h).2 σ
  | cons a r => exact (oo (args := []) h).1 (a :: r) σ (by simp)
theorem oracleOK : OracleOK Go.Proofs.Try.prog prog O := trueO_ok compP fun f hf => by
  have : f = 24 := by simpa using hf
  subst this
  exact ⟨⟨_, get24⟩, W.says⟩
@[simp] theorem works_ok : ans prog O 24 [] = some (.bool true) := ans_of (.inl fun _ => rfl)
end Go.Oct.Screw
