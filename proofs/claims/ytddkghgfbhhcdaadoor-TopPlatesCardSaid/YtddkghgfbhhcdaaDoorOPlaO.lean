/- What is known of the chapter's examples; the functions that are not run apart. -/
import Derived.Test.YtddkghgfbhhcdaaDoorOPlaW
import Derived.Test.YtddkghgfbhhcdaaDoorOT3
import Derived.Test.YtddkghgfbhhcdaaDoorOPlaG
namespace Go.Oct.Pla
def O : Caller := trueO [10]
abbrev pl : List Nat := [95, 88, 56, 93, 87]
theorem oo {g : Nat} {args : List AV} (h : g ≠ 10) : (∀ a σ, a ≠ [] → O (.fn g) a σ = none) ∧ ∀ σ, O (.fn g) args σ = none := by
  constructor
  · intro a σ ha
    cases a with
    | nil => exact absurd rfl ha
    | cons => rfl
  · intro σ
    cases args with
    | nil => simp [O, trueO, h]
    | cons => rfl
theorem oNone {f : Nat} {avs : List AV} {σ : AH} (h : f ≠ 10) : O (.fn f) avs σ = none := by
  cases avs with
  | nil => exact (oo (args := []) h).2 σ
  | cons a r => exact (oo (args := []) h).1 (a :: r) σ (by simp)
theorem oracleOK : OracleOK Go.Proofs.Tryd.prog prog O := trueO_ok compP fun f hf => by
  have : f = 10 := by simpa using hf
  subst this
  exact ⟨⟨_, get10⟩, W.says⟩
@[simp] theorem works_ok : ans prog O 10 [] = some (.bool true) := ans_of (.inl fun _ => rfl)
end Go.Oct.Pla
