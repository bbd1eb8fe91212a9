/- A truth that numbers choose. -/
import Derived.Test.YtpccnjgeddjfjaaOClockErr
import Derived.Test.YtpccnjgeddjfjaaOClockConY
set_option maxRecDepth 100000
set_option maxHeartbeats 2000000
set_option linter.unusedVariables false
set_option linter.unusedSimpArgs false
namespace Go.Oct.Clock
open Go.Oct
def chz (l h n : Int) : Int := if h ≤ l then l else l + n % (h - l + 1)
theorem chz_in {l h n : Int} (hl : l ≤ h) : l ≤ chz l h n ∧ chz l h n ≤ h := by
  unfold chz
  split
  · omega
  · have h1 := Int.emod_nonneg n (show h - l + 1 ≠ 0 by omega)
    have h2 := Int.emod_lt_of_pos n (show 0 < h - l + 1 by omega)
    omega
@[simp] theorem sound_ok (nT nR : Bool) (T : List Int) (R : List Span) (a e : Span) (hT : T.length < 2 ^ 62) (hR : R.length < 2 ^ 62) : ans prog O 32 [eClk nT nR T R a e] = some (.bool (decide (okClk T R a e))) := by
  refine fn_of' pl get32 (oo (by decide)) rfl rfl ?_
  by_cases h : okClk T R a e
  · have h1 := (okT_of h).1
    have h2 := h.1.2.1
    simp (disch := omega) [h]
    try omega
  · simp (disch := omega) [h]
def pick (b : List Int) (n : Int) : Int := nth b (n % (b.length : Int)).toNat
def chR (b : List Int) (l : List Span) (o n : Nat) : List Int := (List.range n).map fun i => chz (nth l i).lo (nth l i).hi (pick b ((i : Int) + o))
theorem chR_succ (b : List Int) (l : List Span) (o n : Nat) : chR b l o (n + 1) = chR b l o n ++ [chz (nth l n).lo (nth l n).hi (pick b ((n : Int) + o))] := by unfold chR; rw [List.range_succ, List.map_append]; rfl
theorem chR_len (b : List Int) (l : List Span) (o n : Nat) : (chR b l o n).length = n := by unfold chR; simp
theorem bufVal {α : Type} {lo z : Nat} {en : α → AV} {σ : AH} {v : AV} {xs : List α} (h : Buf lo z en σ v xs) : v.dfd = true ∧ v.cells = [v] ∧ v.one = true := by
  rcases h with ⟨rfl, _⟩ | ⟨i, rfl, _⟩ <;> exact ⟨rfl, rfl, rfl⟩
end Go.Oct.Clock
