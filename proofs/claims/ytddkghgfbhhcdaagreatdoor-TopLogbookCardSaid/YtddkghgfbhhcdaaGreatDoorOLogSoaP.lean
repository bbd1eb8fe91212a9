/- Pages that get wet, byte by byte. -/
import Derived.Test.YtddkghgfbhhcdaaGreatDoorOLogWet
set_option maxRecDepth 100000
set_option maxHeartbeats 4000000
set_option linter.unusedVariables false
set_option linter.unusedSimpArgs false
namespace Go.Oct.Log
open Go.Oct
theorem lostE_pre (i k : Int) {t r : List Int} : ∀ j, j ≤ t.length → lostE i k (t ++ r) j = lostE i k t j
  | 0, _ => rfl
  | j + 1, h => by rw [lostE, lostE, lostE_pre i k j (by omega), nth_append_left (by omega)]
theorem lostR_pre (i : Int) {t r : List (List Int)} : ∀ j, j ≤ t.length → lostR i (t ++ r) j = lostR i t j
  | 0, _ => rfl
  | j + 1, h => by rw [lostR, lostR, lostR_pre i j (by omega), nth_append_left (by omega)]
theorem lostP_pre {t r : Page} : ∀ j, j ≤ t.length → lostP (t ++ r) j = lostP t j
  | 0, _ => rfl
  | j + 1, h => by rw [lostP, lostP, lostP_pre j (by omega), nth_append_left (by omega)]
/-- How many bytes are lost. -/
def nE (t : List Int) : Nat := (lostE 0 0 t t.length).length
def nR (row : List (List Int)) : Nat := (lostR 0 row row.length).length
def nP (R : Page) : Nat := (lostP R R.length).length
theorem lostE_ik (i k i' k' : Int) (t : List Int) : ∀ j, (lostE i k t j).length = (lostE i' k' t j).length
  | 0 => rfl
  | j + 1 => by
    rw [lostE, lostE, List.length_append, List.length_append, lostE_ik i k i' k' t j]
    split <;> rfl
theorem lostR_i (i i' : Int) (t : List (List Int)) : ∀ j, (lostR i t j).length = (lostR i' t j).length
  | 0 => rfl
  | j + 1 => by rw [lostR, lostR, List.length_append, List.length_append, lostR_i i i' t j, lostE_ik i j i' j]
@[simp] theorem nE_nil : nE [] = 0 := rfl
@[simp] theorem nR_nil : nR [] = 0 := rfl
@[simp] theorem nP_nil : nP [] = 0 := rfl
theorem nth_last {α : Type} [Inhabited α] (t : List α) (c : α) : nth (t ++ [c]) t.length = c := by
  rw [nth_append_right (Nat.le_refl _) (by simp)]
  simp
theorem nE_app (t : List Int) (c : Int) : nE (t ++ [c]) = nE t + if c = 63 then 1 else 0 := by
  unfold nE
  rw [List.length_append, List.length_singleton, lostE, List.length_append, lostE_pre 0 0 _ (Nat.le_refl _), nth_last]
  congr 1
  split <;> rfl
theorem nR_app (row : List (List Int)) (t : List Int) : nR (row ++ [t]) = nR row + nE t := by
  unfold nR nE
  rw [List.length_append, List.length_singleton, lostR, List.length_append, lostR_pre 0 _ (Nat.le_refl _), nth_last, lostE_ik 0 row.length 0 0]
theorem nP_app (R : Page) (row : List (List Int)) : nP (R ++ [row]) = nP R + nR row := by
  unfold nP nR
  rw [List.length_append, List.length_singleton, lostP, List.length_append, lostP_pre _ (Nat.le_refl _), nth_last, lostR_i R.length 0]
theorem nP_lost (R : Page) : (lost R).length = nP R := rfl
/-- Bytes of which some are lost. -/
def EB (t l : List Int) : Prop := t.length ≤ l.length ∧ ∀ a, a < t.length → nth t a = 63 ∨ nth t a = nth l a
theorem EB.nil (l : List Int) : EB [] l := ⟨Nat.zero_le _, fun a h => by simp at h⟩
theorem EB.app {t l : List Int} (h : EB t l) (h1 : t.length < l.length) {c : Int} (hc : c = 63 ∨ c = nth l t.length) : EB (t ++ [c]) l := by
  refine ⟨by simp; omega, fun a ha => ?_⟩
  rw [List.length_append, List.length_singleton] at ha
  by_cases e : a = t.length
  · subst e; rw [nth_last]; exact hc
  · rw [nth_append_left (by omega)]; exact h.2 a (by omega)
def RB (row row0 : List (List Int)) : Prop := row.length ≤ row0.length ∧ ∀ k, k < row.length → (nth row k).length = (nth row0 k).length ∧ EB (nth row k) (nth row0 k)
theorem RB.nil (l : List (List Int)) : RB [] l := ⟨Nat.zero_le _, fun a h => by simp at h⟩
theorem RB.app {t l : List (List Int)} (h : RB t l) (h1 : t.length < l.length) {c : List Int} (hc : c.length = (nth l t.length).length ∧ EB c (nth l t.length)) : RB (t ++ [c]) l := by
  refine ⟨by simp; omega, fun a ha => ?_⟩
  rw [List.length_append, List.length_singleton] at ha
  by_cases e : a = t.length
  · subst e; rw [nth_last]; exact hc
  · rw [nth_append_left (by omega)]; exact h.2 a (by omega)
def PB (R R0 : Page) : Prop := R.length ≤ R0.length ∧ ∀ k, k < R.length → (nth R k).length = (nth R0 k).length ∧ RB (nth R k) (nth R0 k)
theorem PB.nil (l : Page) : PB [] l := ⟨Nat.zero_le _, fun a h => by simp at h⟩
theorem PB.app {t l : Page} (h : PB t l) (h1 : t.length < l.length) {c : List (List Int)} (hc : c.length = (nth l t.length).length ∧ RB c (nth l t.length)) : PB (t ++ [c]) l := by
  refine ⟨by simp; omega, fun a ha => ?_⟩
  rw [List.length_append, List.length_singleton] at ha
  by_cases e : a = t.length
  · subst e; rw [nth_last]; exact hc
  · rw [nth_append_left (by omega)]; exact h.2 a (by omega)
theorem PB.wet {w : Nat} {R R0 : Page} (hf : Full w R0) (h : PB R R0) (he : R.length = R0.length) : Wet w R R0 := by
  refine ⟨he, fun i hi => ?_, fun i k hi hk => ?_, fun i k a hi hk ha => ?_⟩
  · rw [(h.2 i (by omega)).1, hf.wide i hi]
  · have h1 := h.2 i (by omega)
    rw [hf.wide i hi] at h1
    exact (h1.2.2 k (by omega)).1
  · have h1 := h.2 i (by omega)
    rw [hf.wide i hi] at h1
    have h2 := h1.2.2 k (by omega)
    exact h2.2.2 a (by omega)
/-! ### Numbers, with all sums -/
def nsum (f : Nat → Nat) : Nat → Nat
  | 0 => 0
  | k + 1 => nsum f k + f k
theorem entv_dg {R : Page} {i k n : Nat} (e : nth (nth R i) k = dg n) : entv (fun _ => 0) R i k = n := by
  unfold entv
  rw [e]
  have : sub (fun _ => 0) (dg n) = dg n := list_eq (by rw [sub_len]) fun a ha => by
    rw [sub_nth (by rwa [sub_len] at ha), if_neg]
    rw [sub_len] at ha
    have := dg_digs n _ (nth_mem ha)
    omega
  rw [this, val_dg]
theorem Full.of {w : Nat} {R : Page} (rows : 2 ≤ R.length ∧ R.length ≤ 5) (cols : 2 ≤ w ∧ w ≤ 5) (wide : ∀ i, i < R.length → (nth R i).length = w) (f : Nat → Nat → Nat) (ent : ∀ i k, i < R.length → k < w → f i k < 100000 ∧ nth (nth R i) k = dg (f i k))
    (row : ∀ i, i < R.length → nsum (f i) (w - 1) = f i (w - 1)) (col : ∀ k, k < w → nsum (fun i => f i k) (R.length - 1) = f (R.length - 1) k) : Full w R := by
  refine ⟨rows, cols, wide, fun i k hi hk => ⟨f i k, ent i k hi hk⟩, fun i hi => ?_, fun k hk => ?_⟩
  · have key : ∀ j, j ≤ w → rsum (fun _ => 0) R i j = nsum (f i) j := by
      intro j
      induction j with
      | zero => intro _; rfl
      | succ j ih =>
        intro h
        rw [rsum, nsum, ih (by omega), entv_dg (ent i j hi (by omega)).2]
        omega
    unfold rowAg
    rw [key _ (by omega), entv_dg (ent i (w - 1) hi (by omega)).2, row i hi]
  · have key : ∀ j, j ≤ R.length → csum (fun _ => 0) R k j = nsum (fun i => f i k) j := by
      intro j
      induction j with
      | zero => intro _; rfl
      | succ j ih =>
        intro h
        rw [csum, nsum, ih (by omega), entv_dg (ent j k (by omega) hk).2]
        omega
    unfold colAg
    rw [key _ (by omega), entv_dg (ent (R.length - 1) k (by omega) hk).2, col k hk]
end Go.Oct.Log
