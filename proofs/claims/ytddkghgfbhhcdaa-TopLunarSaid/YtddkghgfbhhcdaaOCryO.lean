/- What is known of the chapter's examples; the functions that are not run apart. -/
import Derived.Test.YtddkghgfbhhcdaaOCryW
import Derived.Test.YtddkghgfbhhcdaaOT3
import Derived.Test.YtddkghgfbhhcdaaOT4
import Derived.Test.YtddkghgfbhhcdaaOCryG
namespace Go.Oct.Cry
def O : Caller := trueO [25]
abbrev pl : List Nat := [92, 93, 73, 72, 119, 120, 144, 74, 59, 115, 68, 117, 134]
theorem oo {g : Nat} {args : List AV} (h : g ≠ 25) : (∀ a σ, a ≠ [] → O (.fn g) a σ = none) ∧ ∀ σ, O (.fn g) args σ = none := by
  constructor
  · intro a σ ha
    cases a with
    | nil => exact absurd rfl ha
    | cons => rfl
  · intro σ
    cases args with
    | nil => simp [O, trueO, h]
    | cons => rfl
theorem oNone {f : Nat} {avs : List AV} {σ : AH} (h : f ≠ 25) : O (.fn f) avs σ = none := by
  cases avs with
  | nil => exact (oo (args := []) h).2 σ
  | cons a r => exact (oo (args := []) h).1 (a :: r) σ (by simp)
theorem oracleOK : OracleOK Go.Proofs.Try.prog prog O := trueO_ok compP fun f hf => by
  have : f = 25 := by simpa using hf
  subst this
  exact ⟨⟨_, get25⟩, W.says⟩
@[simp] theorem works_ok : ans prog O 25 [] = some (.bool true) := ans_of (.inl fun _ => rfl)
end Go.Oct.Cry
