/- What is known of the chapter's examples; the functions that are not run apart. -/
import Derived.Test.YtddkghgfbhhcdaaOTriW
import Derived.Test.YtddkghgfbhhcdaaOT3
import Derived.Test.YtddkghgfbhhcdaaOTriG
namespace Go.Oct.Tri
def O : Caller := trueO [9]
abbrev pl : List Nat := [92, 93, 45, 49, 50, 46, 100, 103, 96, 97, 132, 149, 131, 133, 98, 101, 102, 104, 105]
theorem oo {g : Nat} {args : List AV} (h : g ≠ 9) : (∀ a σ, a ≠ [] → O (.fn g) a σ = none) ∧ ∀ σ, O (.fn g) args σ = none := by
  constructor
  · intro a σ ha
    cases a with
    | nil => exact absurd rfl ha
    | cons => rfl
  · intro σ
    cases args with
    | nil => simp [O, trueO, h]
    | cons => rfl
theorem oNone {f : Nat} {avs : List AV} {σ : AH} (h : f ≠ 9) : O (.fn f) avs σ = none := by
  cases avs with
  | nil => exact (oo (args := []) h).2 σ
  | cons a r => exact (oo (args := []) h).1 (a :: r) σ (by simp)
theorem oracleOK : OracleOK Go.Proofs.Try.prog prog O := trueO_ok compP fun f hf => by
  have : f = 9 := by simpa using hf
  subst this
  exact ⟨⟨_, get9⟩, W.says⟩
@[simp] theorem works_ok : ans prog O 9 [] = some (.bool true) := ans_of (.inl fun _ => rfl)
end Go.Oct.Tri
