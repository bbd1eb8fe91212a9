/- What is known of the chapter's examples; the functions that are not run apart. -/
import Derived.Test.YtddclpecmjibkaaDoorOFixW
import Derived.Test.YtddclpecmjibkaaDoorOT3
import Derived.Test.YtddclpecmjibkaaDoorOT4
import Derived.Test.YtddclpecmjibkaaDoorOFixG
namespace Go.Oct.Fix
def O : Caller := trueO [26]
abbrev pl : List Nat := [58, 70, 71, 72, 73, 76, 80, 92, 96, 86, 103, 108, 109, 110, 111, 112, 114, 115, 118, 121, 122, 123, 120]
theorem oo {g : Nat} {args : List AV} (h : g ≠ 26) : (∀ a σ, a ≠ [] → O (.fn g) a σ = none) ∧ ∀ σ, O (.fn g) args σ = none := by
  constructor
  · intro a σ ha
    cases a with
    | nil => exact absurd rfl ha
    | cons => rfl
  · intro σ
    cases args with
    | nil => simp [O, trueO, h]
    | cons => rfl
theorem oNone {f : Nat} {avs : List AV} {σ : AH} (h : f ≠ 26) : O (.fn f) avs σ = none := by
  cases avs with
  | nil => exact (oo (args := []) h).2 σ
  | cons a r => exact (oo (args := []) h).1 (a :: r) σ (by simp)
theorem oracleOK : OracleOK Go.Proofs.Tryd.prog prog O := trueO_ok compP fun f hf => by
  have : f = 26 := by simpa using hf
  subst this
  exact ⟨⟨_, get26⟩, W.says⟩
@[simp] theorem works_ok : ans prog O 26 [] = some (.bool true) := ans_of (.inl fun _ => rfl)
end Go.Oct.Fix
