/- What is known of the chapter's examples; the functions that are not run apart. -/
import Derived.Test.YtddkghgfbhhcdaaGreatDoorOLogW
import Derived.Test.YtddkghgfbhhcdaaGreatDoorOT3
import Derived.Test.YtddkghgfbhhcdaaGreatDoorOT4
import Derived.Test.YtddkghgfbhhcdaaGreatDoorOLogG
namespace Go.Oct.Log
def O : Caller := trueO [11]
abbrev pl : List Nat := [37, 63, 86, 24, 25, 52, 53, 54, 55, 56, 79, 80, 83, 58, 59, 84, 85, 134, 135]
theorem oo {g : Nat} {args : List AV} (h : g ≠ 11) : (∀ a σ, a ≠ [] → O (.fn g) a σ = none) ∧ ∀ σ, O (.fn g) args σ = none := by
  constructor
  · intro a σ ha
    cases a with
    | nil => exact absurd rfl ha
    | cons => rfl
  · intro σ
    cases args with
    | nil => simp [O, trueO, h]
    | cons => rfl
theorem oNone {f : Nat} {avs : List AV} {σ : AH} (h : f ≠ 11) : O (.fn f) avs σ = none := by
  cases avs with
  | nil => exact (oo (args := []) h).2 σ
  | cons a r => exact (oo (args := []) h).1 (a :: r) σ (by simp)
theorem oracleOK : OracleOK Go.Proofs.Tryz.prog prog O := trueO_ok compP fun f hf => by
  have : f = 11 := by simpa using hf
  subst this
  exact ⟨⟨_, get11⟩, W.says⟩
@[simp] theorem works_ok : ans prog O 11 [] = some (.bool true) := ans_of (.inl fun _ => rfl)
end Go.Oct.Log
