/- Nets, plain: what is reached proves that no angles close, or that an angle cannot be more. -/
import Derived.Test.YtddkghgfbhhcdaaOTriFloP
set_option maxRecDepth 100000
set_option maxHeartbeats 1000000
set_option linter.unusedVariables false
set_option linter.unusedSimpArgs false
namespace Go.Oct.Tri
open Go.Oct
theorem nth_lt_mem {E : List Ed} (hE : okE E) : ∀ e ∈ E, e.u < 8 ∧ 8 ≤ e.v ∧ e.v ≤ 16 := fun e he => by
  obtain ⟨i, hi, rfl⟩ := mem_nth.1 he
  have := hE.2 i hi
  exact ⟨this.1, this.2.1, this.2.2.1⟩
theorem cutE_pos {R : Nat → Bool} {e : Ed} : 0 < cutE R e ↔ R e.u = true ∧ R e.v = false := by
  unfold cutE ind; cases R e.u <;> cases R e.v <;> simp
theorem cutE_neg {R : Nat → Bool} {e : Ed} : cutE R e < 0 ↔ R e.u = false ∧ R e.v = true := by
  unfold cutE ind; cases R e.u <;> cases R e.v <;> simp
/-- What triangles that lack seconds reach: their angles are too small. -/
theorem small_cut {E : List Ed} {h : List Int} {R : Nat → Bool} (hE : okE E) (hin : inE E h) (hc : Clo E h (-1) R) :
    sHigh (cutE R) E = sumN (fun t => ind R t * sAt E h t) 8 - sumN (fun s => ind R (8 + s) * sAt E h (8 + s)) 9 := by
  rw [← cut_sum R E h (nth_lt_mem hE) hin.1]
  refine (sOf_high _ _ _ hin.1 fun i hi => ?_).symm
  obtain ⟨h1, h2⟩ := clo_edge hc hin hi (by omega)
  rw [cutE_pos, cutE_neg]
  exact ⟨fun h => h1 h.1 h.2, fun h => h2 h.2 h.1⟩
/-- What they don't reach. -/
def notR (R : Nat → Bool) (p : Nat) : Bool := !R p && decide (p ≠ 16)
theorem big_cut {E : List Ed} {h : List Int} {R : Nat → Bool} (hE : okE E) (hin : inE E h) (hc : Clo E h (-1) R) (ho : ∀ i, i < E.length → (nth E i).v = 16 → nth h i = (nth E i).lo) :
    sLow (cutE (notR R)) E = sumN (fun t => ind (notR R) t * sAt E h t) 8 - sumN (fun s => ind (notR R) (8 + s) * sAt E h (8 + s)) 9 := by
  rw [← cut_sum (notR R) E h (nth_lt_mem hE) hin.1]
  refine (sOf_low _ _ _ hin.1 fun i hi => ?_).symm
  obtain ⟨h1, h2⟩ := clo_edge hc hin hi (by omega)
  have hu := (hE.2 i hi).1
  rw [cutE_pos, cutE_neg]
  unfold notR
  constructor
  · intro h
    by_cases h16 : (nth E i).v = 16
    · exact ho i hi h16
    · have a : R (nth E i).u = false := by
        have := h.1
        simp at this
        exact this.1
      have b : R (nth E i).v = true := by
        have := h.2
        simp [h16] at this
        exact this
      exact h2 b a
  · intro h
    have a : R (nth E i).v = false := by
      have := h.2
      simp at this
      exact this.1
    have b : R (nth E i).u = true := by
      have := h.1
      have h3 : ¬ (nth E i).u = 16 := by omega
      simp [h3] at this
      exact this
    exact h1 b a
/-- Sums that are alike everywhere but at the open place are alike there, too. -/
theorem open_eq {E : List Ed} {f h : List Int} (hE : okE E) (hf : f.length = E.length) (hh : h.length = E.length) (heq : ∀ p, p ≠ 16 → sAt E f p = sAt E h p) : sAt E f 16 = sAt E h 16 := by
  have c0 : ∀ (E : List Ed) (x : List Int), sOf (cutE fun _ => true) E x = 0 := fun E => by
    induction E with
    | nil => intro x; cases x <;> rfl
    | cons e E ih => intro x; cases x with
      | nil => rfl
      | cons y x => simp only [sOf, ih]; simp [cutE, ind]
  have h1 := cut_sum (fun _ => true) E f (nth_lt_mem hE) hf
  have h2 := cut_sum (fun _ => true) E h (nth_lt_mem hE) hh
  rw [c0] at h1 h2
  have e1 : sumN (fun t => ind (fun _ => true) t * sAt E f t) 8 = sumN (fun t => ind (fun _ => true) t * sAt E h t) 8 := sumN_congr 8 fun i hi => by rw [heq i (by omega)]
  have e2 : sumN (fun s => ind (fun _ => true) (8 + s) * sAt E f (8 + s)) 8 = sumN (fun s => ind (fun _ => true) (8 + s) * sAt E h (8 + s)) 8 := sumN_congr 8 fun i hi => by rw [heq _ (by omega)]
  have s9 : ∀ x : List Int, sumN (fun s => ind (fun _ => true) (8 + s) * sAt E x (8 + s)) 9 = sumN (fun s => ind (fun _ => true) (8 + s) * sAt E x (8 + s)) 8 + sAt E x 16 := fun x => by
    show _ + ind (fun _ => true) (8 + 8) * sAt E x (8 + 8) = _
    have : ind (fun _ => true) (8 + 8) = 1 := rfl
    rw [this, Int.one_mul]
  rw [s9] at h1 h2
  rw [e1, e2] at h1
  omega
/-- One list of sums against another one, angle by angle. -/
theorem sOf_le_at (g : Ed → Int) : ∀ (E : List Ed) (f h : List Int) (i : Nat), i < E.length → f.length = E.length → h.length = E.length → (∀ j, j < E.length → j ≠ i → g (nth E j) * nth f j ≤ g (nth E j) * nth h j) →
    sOf g E f = sOf g E h → g (nth E i) * nth h i ≤ g (nth E i) * nth f i := by
  have le : ∀ (E : List Ed) (f h : List Int), f.length = E.length → h.length = E.length → (∀ j, j < E.length → g (nth E j) * nth f j ≤ g (nth E j) * nth h j) → sOf g E f ≤ sOf g E h := fun E => by
    induction E with
    | nil => intro f h h1 h2 _; cases f <;> cases h <;> simp [sOf] at *
    | cons e E ih => intro f h h1 h2 h3; cases f with
      | nil => simp at h1
      | cons x f => cases h with
        | nil => simp at h2
        | cons y h =>
          have a := ih f h (by simpa using h1) (by simpa using h2) fun j hj => by simpa using h3 (j + 1) (by simpa using hj)
          have b := h3 0 (by simp)
          simp only [nth_zero] at b
          simp only [sOf]; omega
  intro E
  induction E with
  | nil => intro f h i hi; simp at hi
  | cons e E ih =>
    intro f h i hi h1 h2 h3 h4
    cases f with
    | nil => simp at h1
    | cons x f => cases h with
      | nil => simp at h2
      | cons y h =>
        simp only [sOf] at h4
        cases i with
        | zero =>
          have a := le E f h (by simpa using h1) (by simpa using h2) fun j hj => by simpa using h3 (j + 1) (by simpa using hj) (by omega)
          simp only [nth_zero]
          omega
        | succ i =>
          have b := h3 0 (by simp) (by omega)
          simp only [nth_zero] at b
          have hl1 : f.length = E.length := by simpa using h1
          have hl2 : h.length = E.length := by simpa using h2
          have c : ∀ j, j < E.length → j ≠ i → g (nth E j) * nth f j ≤ g (nth E j) * nth h j := fun j hj hji => by simpa using h3 (j + 1) (by simpa using hj) (by omega)
          simp only [nth_succ]
          have hi' : i < E.length := by simpa using hi
          -- the same with this first term left out
          by_cases d : sOf g E f = sOf g E h
          · exact ih f h i hi' hl1 hl2 c d
          · have d2 : sOf g E h < sOf g E f := by omega
            by_cases e3 : g (nth E i) * nth h i ≤ g (nth E i) * nth f i
            · exact e3
            · have := le E f h hl1 hl2 fun j hj => by
                by_cases hji : j = i
                · subst hji; omega
                · exact c j hj hji
              omega
/-- Angles that close, as sums. -/
structure Cl2 (E : List Ed) (S : Nat → Int) (h : List Int) : Prop where
  bd : inE E h
  sum : ∀ p, p ≠ 16 → sAt E h p = S p
/-- When nothing goes on from one side of an angle to the other one, it is at its end. -/
theorem end_of {E : List Ed} {S : Nat → Int} {f h : List Int} {R : Nat → Bool} {i : Nat} (hE : okE E) (hf : Cl2 E S f) (hh : Cl2 E S h) (hi : i < E.length) (hc : Clo E h i R) :
    (R (nth E i).v = true → R (nth E i).u = false → nth f i ≤ nth h i) ∧ (R (nth E i).u = true → R (nth E i).v = false → nth h i ≤ nth f i) := by
  have h16 := open_eq hE hf.bd.1 hh.bd.1 fun p hp => by rw [hf.sum p hp, hh.sum p hp]
  have hall : ∀ p, sAt E f p = sAt E h p := fun p => by
    by_cases hp : p = 16
    · rw [hp]; exact h16
    · rw [hf.sum p hp, hh.sum p hp]
  have hs : sOf (cutE R) E f = sOf (cutE R) E h := by
    rw [cut_sum R E f (nth_lt_mem hE) hf.bd.1, cut_sum R E h (nth_lt_mem hE) hh.bd.1]
    simp only [hall]
  have key := sOf_le_at (cutE R) E f h i hi hf.bd.1 hh.bd.1 (fun j hj hji => ?_) hs
  · constructor
    · intro h1 h2
      have : cutE R (nth E i) = -1 := by unfold cutE ind; rw [h1, h2]; rfl
      rw [this] at key; omega
    · intro h1 h2
      have : cutE R (nth E i) = 1 := by unfold cutE ind; rw [h1, h2]; rfl
      rw [this] at key; omega
  · obtain ⟨a, b⟩ := clo_edge hc hh.bd hj (by omega)
    have hb := hf.bd.2 j hj
    unfold cutE ind
    cases h1 : R (nth E j).u <;> cases h2 : R (nth E j).v <;> simp
    · have := b h2 h1; omega
    · have := a h1 h2; omega
end Go.Oct.Tri
