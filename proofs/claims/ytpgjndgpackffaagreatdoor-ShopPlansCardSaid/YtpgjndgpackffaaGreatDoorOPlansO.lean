/- What is known of the chapter's examples; the functions that are not run apart. -/
import Derived.Test.YtpgjndgpackffaaGreatDoorOPlansW
import Derived.Test.YtpgjndgpackffaaGreatDoorOT3
import Derived.Test.YtpgjndgpackffaaGreatDoorOT4
import Derived.Test.YtpgjndgpackffaaGreatDoorOPlansG
namespace Go.Oct.Plans
def O : Caller := trueO [14]
abbrev pl : List Nat := [54, 55, 25, 45, 47, 84, 39, 86, 26, 48, 61, 29, 50, 71]
theorem oo {g : Nat} {args : List AV} (h : g ≠ 14) : (∀ a σ, a ≠ [] → O (.fn g) a σ = none) ∧ ∀ σ, O (.fn g) args σ = none := by
  constructor
  · intro a σ ha
    cases a with
    | nil => exact absurd rfl ha
    | cons => rfl
  · intro σ
    cases args with
    | nil => simp [O, trueO, h]
    | cons => rfl
theorem oNone {f : Nat} {avs : List AV} {σ : AH} (h : f ≠ 14) : O (.fn f) avs σ = none := by
  cases avs with
  | nil => exact (oo (args := []) h).2 σ
  | cons a r => exact (oo (args := []) h).1 (a :: r) σ (by simp)
theorem oracleOK : OracleOK Go.Proofs.Tryz.prog prog O := trueO_ok compP fun f hf => by
  have : f = 14 := by simpa using hf
  subst this
  exact ⟨⟨_, get14⟩, W.says⟩
@[simp] theorem works_ok : ans prog O 14 [] = some (.bool true) := ans_of (.inl fun _ => rfl)
end Go.Oct.Plans
