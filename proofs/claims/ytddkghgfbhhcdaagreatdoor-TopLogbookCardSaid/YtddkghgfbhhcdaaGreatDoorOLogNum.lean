/- Trial numbers. -/
import Derived.Test.YtddkghgfbhhcdaaGreatDoorOLogCen
set_option maxRecDepth 100000
set_option maxHeartbeats 2000000
set_option linter.unusedVariables false
set_option linter.unusedSimpArgs false
namespace Go.Oct.Log.Ck
open Go.Oct
/-- The greatest step of so many. -/
def stepF (w : List Int) : Nat → Int
  | 0 => 0
  | n + 1 => max (stepF w n) (max (nth w (n + 1) - nth w n) (-(nth w (n + 1) - nth w n)))
def numV (w : List Int) : Int := maxF (nth w) (w.length - 1) - minF (nth w) (w.length - 1) + 2 * stepF w (w.length - 1)
def okWeeks (w : List Int) : Prop := (2 ≤ w.length ∧ w.length ≤ 30) ∧ ∀ i, i < w.length → -100000 ≤ nth w i ∧ nth w i ≤ 100000
theorem step_bd {w : List Int} (h : okWeeks w) : ∀ n, n + 1 ≤ w.length → 0 ≤ stepF w n ∧ stepF w n ≤ 200000
  | 0, _ => by simp [stepF]
  | n + 1, hn => by
    have h1 := step_bd h n (by omega)
    have h2 := h.2 n (by omega)
    have h3 := h.2 (n + 1) (by omega)
    simp only [stepF]
    omega
theorem tab_nth (w : List Int) : tab (nth w) w.length = w := by
  apply ext_nth
  · rw [tab_len]
  · intro j hj
    rw [tab_len] at hj
    unfold tab
    have h2 := nth_get? (xs := (List.range w.length).map (nth w)) (i := j) (by simpa using hj)
    rw [List.getElem?_map, List.getElem?_range hj] at h2
    simpa using h2.symm
theorem fold_min {w : List Int} (h : 1 ≤ w.length) : w.foldl min (nth w 0) = minF (nth w) (w.length - 1) := by
  have := tab_min (nth w) (w.length - 1)
  rw [show w.length - 1 + 1 = w.length by omega, tab_nth] at this
  exact this
theorem fold_max {w : List Int} (h : 1 ≤ w.length) : w.foldl max (nth w 0) = maxF (nth w) (w.length - 1) := by
  have := tab_max (nth w) (w.length - 1)
  rw [show w.length - 1 + 1 = w.length by omega, tab_nth] at this
  exact this
theorem ends_lit {σ : AH} {x a b : Int} {i : Nat} {k : Kn (AV → AH → Prop)} {q : Bool} (hi : σ.get i = some (.cells [.int .i64 a, .int .i64 b])) (hq : q = false)
    (hk : k.k (.tuple [.int .i64 (min (min x a) b), .int .i64 (max (max x a) b)]) σ) : @PcI prog O q 62 [.int .i64 x, .slice (some (i, 0)) 2 (.ex 2)] σ k := by
  subst hq
  have hw : Whole 0 1 (AV.int .i64) σ (.slice (some (i, 0)) 2 (.ex 2)) [a, b] := ⟨i, .ex 2, rfl, Nat.zero_le _, by rw [hi]; rfl, .inr rfl⟩
  exact pc_scal (.cons (Snap.int σ _ _) (.cons (hw.view.snap encI flatI) .nil)) (fun h => by simp at h) (by simp) (oo (args := []) (by decide)).1 (ends2_ok false [a, b] x (by simp)) rfl hk
@[simp] theorem number_ok (nl : Bool) (w : List Int) (h : okWeeks w) : ans prog O 36 [vs nl w] = some (.int .i64 (numV w)) := by
  have hl := h.1
  have e1 := ends2_ok nl w (nth w 0) (by omega)
  rw [fold_min (by omega), fold_max (by omega)] at e1
  refine fn_of' pl get36 (oo (by decide)) rfl rfl ?_
  have h0 : 0 < w.length := by omega
  simp (disch := omega) [e1, h0]
  refine lp_loop pl (fun k fr σ => ∃ j : Nat, j + k = w.length - 1 ∧ fr = ⟨[(0, vs nl w), (3, .int .i64 (minF (nth w) (w.length - 1))), (4, .int .i64 (maxF (nth w) (w.length - 1))), (5, .int .i64 (stepF w j)), (17, .int .i64 ((w.length : Int) - 1)), (18, .int .i64 j)], []⟩ ∧ σ.lim = 0) ⟨w.length - 1, 0, by omega, by simp [stepF], rfl⟩ ?_
  rintro k _ σ ⟨j, hj, rfl, hl0⟩
  by_cases hjl : j + 1 < w.length
  · have b1 := h.2 j (by omega)
    have b2 := h.2 (j + 1) hjl
    have b3 := step_bd h j (by omega)
    have q1 : (j : Int) < (w.length : Int) - 1 := by omega
    have q2 : (j : Int) + 1 < (w.length : Int) := by omega
    have hu := under_zero hl0
    simp (disch := omega) [Und, q1, q2, hl0, hu]
    refine ⟨by omega, by omega, by omega, ?_⟩
    refine ends_lit (a := nth w (j + 1) - nth w j) (b := nth w j - nth w (j + 1)) (by simp) rfl ?_
    have e3 : max (max (stepF w j) (nth w (j + 1) - nth w j)) (nth w j - nth w (j + 1)) = stepF w (j + 1) := by simp only [stepF]; omega
    simp (disch := omega) [Und, e3, hl0]
    exact ⟨k - 1, by omega, j + 1, by omega, by omega, rfl⟩
  · have q1 : ¬ (j : Int) < (w.length : Int) - 1 := by omega
    obtain rfl : j = w.length - 1 := by omega
    have b3 := step_bd h (w.length - 1) (by omega)
    have b4 := minF_bd (f := nth w) (A := -100000) (B := 100000) (w.length - 1) fun i hi => h.2 i (by omega)
    have b5 := maxF_bd (f := nth w) (A := -100000) (B := 100000) (w.length - 1) fun i hi => h.2 i (by omega)
    simp (disch := omega) [Und, q1]
    rfl
end Go.Oct.Log.Ck
