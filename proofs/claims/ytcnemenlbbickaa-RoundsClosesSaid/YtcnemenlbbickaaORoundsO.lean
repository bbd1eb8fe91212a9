/- What is known of the chapter's examples; the functions that are not run apart. -/
import Derived.Test.YtcnemenlbbickaaORoundsW
import Derived.Test.YtcnemenlbbickaaOT3
import Derived.Test.YtcnemenlbbickaaORoundsG
namespace Go.Oct.Rounds
def O : Caller := trueO [19]
abbrev pl : List Nat := [63, 65, 44, 66, 67, 78, 81, 86, 87, 91, 92, 90, 89, 88, 79, 80, 82, 83]
theorem oo {g : Nat} {args : List AV} (h : g ≠ 19) : (∀ a σ, a ≠ [] → O (.fn g) a σ = none) ∧ ∀ σ, O (.fn g) args σ = none := by
  constructor
  · intro a σ ha
    cases a with
    | nil => exact absurd rfl ha
    | cons => rfl
  · intro σ
    cases args with
    | nil => simp [O, trueO, h]
    | cons => rfl
theorem oNone {f : Nat} {avs : List AV} {σ : AH} (h : f ≠ 19) : O (.fn f) avs σ = none := by
  cases avs with
  | nil => exact (oo (args := []) h).2 σ
  | cons a r => exact (oo (args := []) h).1 (a :: r) σ (by simp)
theorem oracleOK : OracleOK Go.Proofs.Try.prog prog O := trueO_ok compP fun f hf => by
  have : f = 19 := by simpa using hf
  subst this
  exact ⟨⟨_, get19⟩, W.says⟩
@[simp] theorem works_ok : ans prog O 19 [] = some (.bool true) := ans_of (.inl fun _ => rfl)
end Go.Oct.Rounds
