/- What is known of the chapter's examples; the functions that are not run apart. -/
import Derived.Test.YtpccnjgeddjfjaaOClockW
import Derived.Test.YtpccnjgeddjfjaaOT3
import Derived.Test.YtpccnjgeddjfjaaOClockG
namespace Go.Oct.Clock
def O : Caller := trueO [22]
abbrev pl : List Nat := [47, 48, 49, 50, 59, 84, 75, 77, 93, 108, 76, 71, 87, 96]
theorem oo {g : Nat} {args : List AV} (h : g ≠ 22) : (∀ a σ, a ≠ [] → O (.fn g) a σ = none) ∧ ∀ σ, O (.fn g) args σ = none := by
  constructor
  · intro a σ ha
    cases a with
    | nil => exact absurd rfl ha
    | cons => rfl
  · intro σ
    cases args with
    | nil => simp [O, trueO, h]
    | cons => rfl
theorem oNone {f : Nat} {avs : List AV} {σ : AH} (h : f ≠ 22) : O (.fn f) avs σ = none := by
  cases avs with
  | nil => exact (oo (args := []) h).2 σ
  | cons a r => exact (oo (args := []) h).1 (a :: r) σ (by simp)
theorem oracleOK : OracleOK Go.Proofs.Try.prog prog O := trueO_ok compP fun f hf => by
  have : f = 22 := by simpa using hf
  subst this
  exact ⟨⟨_, get22⟩, W.says⟩
@[simp] theorem works_ok : ans prog O 22 [] = some (.bool true) := ans_of (.inl fun _ => rfl)
end Go.Oct.Clock
