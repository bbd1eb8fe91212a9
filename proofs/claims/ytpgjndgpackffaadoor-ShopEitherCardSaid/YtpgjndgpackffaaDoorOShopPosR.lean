/- Posts: the program's, the specification's. -/
import Derived.Test.YtpgjndgpackffaaDoorOShopPosW
set_option maxRecDepth 100000
set_option maxHeartbeats 2000000
set_option linter.unusedVariables false
set_option linter.unusedSimpArgs false
namespace Go.Oct.Shop
open Go.Oct
def bitAt (s k : Nat) : Bool := decide (s / 2 ^ k % 2 = 1)
theorem bits8 : ∀ i, i < 8 → ∀ s, s < 256 → bitAt s i = false → s + 2 ^ i < 256 ∧ ∀ j, j < 8 → bitAt (s + 2 ^ i) j = (decide (j = i) || bitAt s j) := by decide +kernel
theorem spec_bd {M : List Mn} {T : List Int} (hok : okTk M T) {d : Nat} {so : List Int} (hd : so.length + d = T.length) : 0 ≤ (specP M T d so).wages ∧ (specP M T d so).wages ≤ 80000 ∧ (specP M T d so).best.length ≤ 8 := by
  obtain ⟨_, b2, b3⟩ := spec_best M T d so hd
  have h8 := hok.1
  cases hf : (specP M T d so).found with
  | false =>
    obtain ⟨h1, h2⟩ := b3 hf
    rw [h1, h2]; simp
  | true =>
    obtain ⟨h1, h2⟩ := b2 hf
    have hl := comp_len h1
    have hn := comp_nth h1
    have hw := wage_bd hok (so := (specP M T d so).best) (fun q hq => by
      obtain ⟨n, n1, n2, _⟩ := hn q hq
      omega) (specP M T d so).best.length (Nat.le_refl _)
    rw [List.take_length] at hw
    omega
theorem specTo_bd {M : List Mn} {T : List Int} (hok : okTk M T) {d : Nat} {so : List Int} (hd : so.length + (d + 1) = T.length) : ∀ n, n ≤ M.length → 0 ≤ (specTo M T d so n).wages ∧ (specTo M T d so n).wages ≤ 90000
  | 0, _ => by simp [specTo]
  | n + 1, hn => by
    have h1 := specTo_bd hok hd n (by omega)
    rw [specTo_succ]
    split
    · have h2 := spec_bd hok (d := d) (so := so ++ [(n : Int)]) (by simp; omega)
      have h3 := (hok.2.1 n (by omega)).2
      unfold stepS
      split
      · show 0 ≤ _ + _ ∧ _ + _ ≤ (90000 : Int)
        omega
      · exact h1
    · exact h1
def postE (M : List Mn) (T : List Int) : Int := if okTk M T then (if (specP M T T.length []).found then 0 else 4) else 105
def postW (M : List Mn) (T : List Int) : Int := if okTk M T then (specP M T T.length []).wages else 0
def postL (M : List Mn) (T : List Int) : List Int := if okTk M T then (specP M T T.length []).best else []
theorem Posts_ok (nM nT : Bool) (M : List Mn) (T : List Int) (hM : M.length < 2 ^ 62) (hT : T.length < 2 ^ 62) :
    ∃ v, (∃ nl, v = .tuple [vs nl (postL M T), .int .i64 (postW M T), .int .i64 (postE M T)]) ∧ ans prog O 22 [vl eMn nM M, vs nT T] = some v := by
  have h1 := areTasks_ok nM nT M T hM hT
  refine fn_ex pl _ get22 (oo (by decide)) rfl rfl ?_
  unfold postE postW postL
  by_cases hok : okTk M T
  · obtain ⟨_, ⟨nl, rfl⟩, h2⟩ := posts_ok (nM := nM) (nT := nT) hok
    have hb := (spec_best M T T.length [] (by simp)).2.2
    rw [decide_eq_true hok] at h1
    rw [if_pos hok, if_pos hok, if_pos hok]
    generalize specP M T T.length [] = r at *
    cases hf : r.found with
    | true =>
      simp (disch := omega) [h1, h2, hf, -Bool.exists_bool]
      exact ⟨nl, rfl⟩
    | false =>
      obtain ⟨b1, b2⟩ := hb hf
      simp (disch := omega) [h1, h2, hf, b1, b2, -Bool.exists_bool]
      exact ⟨true, rfl⟩
  · rw [decide_eq_false hok] at h1
    rw [if_neg hok, if_neg hok, if_neg hok]
    simp (disch := omega) [h1, -Bool.exists_bool]
    exact ⟨true, rfl⟩
end Go.Oct.Shop
