/- Nets, plain: edges between triangles and places, sums at places, cuts. -/
import Derived.Test.YtddkghgfbhhcdaaOTriB0
set_option maxRecDepth 100000
set_option maxHeartbeats 1000000
set_option linter.unusedVariables false
set_option linter.unusedSimpArgs false
namespace Go.Oct.Tri
open Go.Oct
/-- An angle of a net that is being given seconds: from which triangle to which place, and its bounds. -/
structure Ed where
  u : Nat
  v : Nat
  lo : Int
  hi : Int
instance : Inhabited Ed := ⟨⟨0, 0, 0, 0⟩⟩
/-- Is it at a place? -/
def Ed.at (e : Ed) (p : Nat) : Prop := e.u = p ∨ e.v = p
instance (e : Ed) (p : Nat) : Decidable (e.at p) := by unfold Ed.at; infer_instance
/-- The sum of all angles at a place. -/
def sAt : List Ed → List Int → Nat → Int
  | e :: E, x :: h, p => (if e.at p then x else 0) + sAt E h p
  | _, _, _ => 0
/-- A number for each edge. -/
def sOf (f : Ed → Int) : List Ed → List Int → Int
  | e :: E, x :: h => f e * x + sOf f E h
  | _, _ => 0
def okE (E : List Ed) : Prop := E.length ≤ 24 ∧ ∀ i, i < E.length → (nth E i).u < 8 ∧ 8 ≤ (nth E i).v ∧ (nth E i).v ≤ 16 ∧ 0 ≤ (nth E i).lo ∧ (nth E i).lo ≤ (nth E i).hi ∧ (nth E i).hi ≤ 648000
/-- Within bounds. -/
def inE (E : List Ed) (h : List Int) : Prop := h.length = E.length ∧ ∀ i, i < E.length → (nth E i).lo ≤ nth h i ∧ nth h i ≤ (nth E i).hi
theorem sAt_set : ∀ (E : List Ed) (h : List Int) (p i : Nat) (y : Int), i < E.length → h.length = E.length → sAt E (h.set i y) p = sAt E h p + if (nth E i).at p then y - nth h i else 0
  | [], _, _, _, _, h1, _ => by simp at h1
  | e :: E, [], _, _, _, _, h2 => by simp at h2
  | e :: E, x :: h, p, 0, y, _, _ => by
    simp only [List.set_cons_zero, sAt, nth_zero]
    split <;> omega
  | e :: E, x :: h, p, i + 1, y, h1, h2 => by
    have := sAt_set E h p i y (by simpa using h1) (by simpa using h2)
    simp only [List.set_cons_succ, sAt, nth_succ, this]
    omega
/-- Is a place in a set? As a number. -/
def ind (R : Nat → Bool) (p : Nat) : Int := bif R p then 1 else 0
/-- What a set of places says. -/
def cutE (R : Nat → Bool) (e : Ed) : Int := ind R e.u - ind R e.v
/-- The sum of numbers from 0 on. -/
def sumN (f : Nat → Int) : Nat → Int
  | 0 => 0
  | n + 1 => sumN f n + f n
theorem sumN_add (f g : Nat → Int) : ∀ n, sumN (fun i => f i + g i) n = sumN f n + sumN g n
  | 0 => rfl
  | n + 1 => by simp only [sumN, sumN_add f g n]; omega
theorem sumN_sub (f g : Nat → Int) : ∀ n, sumN (fun i => f i - g i) n = sumN f n - sumN g n
  | 0 => rfl
  | n + 1 => by simp only [sumN, sumN_sub f g n]; omega
theorem sumN_congr {f g : Nat → Int} : ∀ n, (∀ i, i < n → f i = g i) → sumN f n = sumN g n
  | 0, _ => rfl
  | n + 1, h => by simp only [sumN]; rw [sumN_congr n fun i hi => h i (by omega), h n (by omega)]
theorem sumN_zero : ∀ n, sumN (fun _ => 0) n = 0
  | 0 => rfl
  | n + 1 => by simp only [sumN, sumN_zero n]; rfl
theorem sumN_one (k : Nat) (x : Int) : ∀ n, sumN (fun i => if i = k then x else 0) n = if k < n then x else 0
  | 0 => by simp [sumN]
  | n + 1 => by
    simp only [sumN, sumN_one k x n]
    by_cases h : n = k
    · subst h; simp
    · by_cases h2 : k < n
      · rw [if_pos h2, if_neg h, if_pos (by omega)]; omega
      · rw [if_neg h2, if_neg h, if_neg (by omega)]; omega
theorem sumN_nonneg {f : Nat → Int} : ∀ n, (∀ i, i < n → 0 ≤ f i) → 0 ≤ sumN f n
  | 0, _ => by simp [sumN]
  | n + 1, h => by
    have := sumN_nonneg n fun i hi => h i (by omega)
    have := h n (by omega)
    simp only [sumN]; omega
theorem sumN_pos {f : Nat → Int} {k : Nat} : ∀ n, (∀ i, i < n → 0 ≤ f i) → k < n → 0 < f k → 0 < sumN f n
  | 0, _, h, _ => by omega
  | n + 1, h, hk, hf => by
    have h1 := sumN_nonneg n fun i hi => h i (by omega)
    have h2 := h n (by omega)
    simp only [sumN]
    by_cases e : k = n
    · subst e; omega
    · have := sumN_pos n (fun i hi => h i (by omega)) (show k < n by omega) hf
      omega
/-- The law of cuts: what goes out, less what goes in, is the sum of the places inside. -/
theorem cut_sum (R : Nat → Bool) : ∀ (E : List Ed) (h : List Int), (∀ e ∈ E, e.u < 8 ∧ 8 ≤ e.v ∧ e.v ≤ 16) → h.length = E.length →
    sOf (cutE R) E h = sumN (fun t => ind R t * sAt E h t) 8 - sumN (fun s => ind R (8 + s) * sAt E h (8 + s)) 9
  | [], h, _, _ => by
    rw [sumN_congr 8 (g := fun _ => 0) fun i _ => by simp [sAt], sumN_congr 9 (g := fun _ => 0) fun i _ => by simp [sAt], sumN_zero, sumN_zero]
    simp [sOf]
  | e :: E, [], _, h2 => by simp at h2
  | e :: E, x :: h, he, h2 => by
    have ih := cut_sum R E h (fun e he' => he e (List.mem_cons_of_mem _ he')) (by simpa using h2)
    obtain ⟨e1, e2, e3⟩ := he e (List.mem_cons_self ..)
    simp only [sOf]
    have t1 : sumN (fun t => ind R t * sAt (e :: E) (x :: h) t) 8 = ind R e.u * x + sumN (fun t => ind R t * sAt E h t) 8 := by
      rw [sumN_congr 8 (g := fun t => (if t = e.u then ind R e.u * x else 0) + ind R t * sAt E h t) fun t ht => ?_, sumN_add, sumN_one, if_pos e1]
      simp only [sAt]
      by_cases h : e.u = t
      · have ha : e.at t := .inl h
        rw [if_pos ha, if_pos h.symm, h, Int.mul_add]
      · have ha : ¬ e.at t := fun ha => by rcases ha with ha | ha <;> omega
        rw [if_neg ha, if_neg (fun e => h e.symm)]; simp
    have t2 : sumN (fun s => ind R (8 + s) * sAt (e :: E) (x :: h) (8 + s)) 9 = ind R e.v * x + sumN (fun s => ind R (8 + s) * sAt E h (8 + s)) 9 := by
      rw [sumN_congr 9 (g := fun s => (if s = e.v - 8 then ind R e.v * x else 0) + ind R (8 + s) * sAt E h (8 + s)) fun t ht => ?_, sumN_add, sumN_one, if_pos (by omega)]
      simp only [sAt]
      by_cases h : e.v = 8 + t
      · have ha : e.at (8 + t) := .inr h
        have h4 : t = e.v - 8 := by omega
        rw [if_pos ha, if_pos h4, h, Int.mul_add]
      · have ha : ¬ e.at (8 + t) := fun ha => by rcases ha with ha | ha <;> omega
        rw [if_neg ha, if_neg (by omega)]; simp
    rw [t1, t2, ih]
    unfold cutE
    rw [Int.sub_mul]
    omega
/-- Sums of what lies within bounds. -/
def sLow (f : Ed → Int) (E : List Ed) : Int := E.foldr (fun e a => (if 0 ≤ f e then f e * e.lo else f e * e.hi) + a) 0
def sHigh (f : Ed → Int) (E : List Ed) : Int := E.foldr (fun e a => (if 0 ≤ f e then f e * e.hi else f e * e.lo) + a) 0
theorem sOf_ge (f : Ed → Int) : ∀ (E : List Ed) (h : List Int), inE E h → sLow f E ≤ sOf f E h ∧ sOf f E h ≤ sHigh f E
  | [], [], _ => by simp [sLow, sHigh, sOf]
  | [], _ :: _, h => by simp [inE] at h
  | _ :: _, [], h => by simp [inE] at h
  | e :: E, x :: h, hh => by
    have ih := sOf_ge f E h ⟨by simpa using hh.1, fun i hi => by simpa using hh.2 (i + 1) (by simpa using hi)⟩
    have h0 := hh.2 0 (by simp)
    simp only [nth_zero] at h0
    simp only [sLow, sHigh, List.foldr_cons, sOf] at ih ⊢
    by_cases hf : 0 ≤ f e
    · rw [if_pos hf, if_pos hf]
      have h1 := Int.mul_le_mul_of_nonneg_left h0.1 hf
      have h2 := Int.mul_le_mul_of_nonneg_left h0.2 hf
      omega
    · rw [if_neg hf, if_neg hf]
      have h1 := Int.mul_le_mul_of_nonpos_left (show f e ≤ 0 by omega) h0.1
      have h2 := Int.mul_le_mul_of_nonpos_left (show f e ≤ 0 by omega) h0.2
      omega
/-- Tight angles. -/
theorem sOf_low (f : Ed → Int) : ∀ (E : List Ed) (h : List Int), h.length = E.length → (∀ i, i < E.length → (0 < f (nth E i) → nth h i = (nth E i).lo) ∧ (f (nth E i) < 0 → nth h i = (nth E i).hi)) → sOf f E h = sLow f E
  | [], [], _, _ => by simp [sLow, sOf]
  | [], _ :: _, h, _ => by simp at h
  | _ :: _, [], h, _ => by simp at h
  | e :: E, x :: h, h1, h2 => by
    have ih := sOf_low f E h (by simpa using h1) fun i hi => by simpa using h2 (i + 1) (by simpa using hi)
    have h0 := h2 0 (by simp)
    simp only [nth_zero] at h0
    simp only [sLow, List.foldr_cons, sOf] at ih ⊢
    rw [ih]
    by_cases hf : 0 < f e
    · rw [h0.1 hf, if_pos (by omega)]
    · by_cases hf2 : f e < 0
      · rw [h0.2 hf2, if_neg (by omega)]
      · have : f e = 0 := by omega
        rw [this]; simp
theorem sOf_high (f : Ed → Int) : ∀ (E : List Ed) (h : List Int), h.length = E.length → (∀ i, i < E.length → (0 < f (nth E i) → nth h i = (nth E i).hi) ∧ (f (nth E i) < 0 → nth h i = (nth E i).lo)) → sOf f E h = sHigh f E
  | [], [], _, _ => by simp [sHigh, sOf]
  | [], _ :: _, h, _ => by simp at h
  | _ :: _, [], h, _ => by simp at h
  | e :: E, x :: h, h1, h2 => by
    have ih := sOf_high f E h (by simpa using h1) fun i hi => by simpa using h2 (i + 1) (by simpa using hi)
    have h0 := h2 0 (by simp)
    simp only [nth_zero] at h0
    simp only [sHigh, List.foldr_cons, sOf] at ih ⊢
    rw [ih]
    by_cases hf : 0 < f e
    · rw [h0.1 hf, if_pos (by omega)]
    · by_cases hf2 : f e < 0
      · rw [h0.2 hf2, if_neg (by omega)]
      · have : f e = 0 := by omega
        rw [this]; simp
/-- A step along which seconds can go on: from p to q, along angle i, at most w. -/
def Stp (E : List Ed) (h : List Int) (b : Int) (p q : Nat) (i : Nat) (w : Int) : Prop :=
  i < E.length ∧ (i : Int) ≠ b ∧ 0 < w ∧ ((nth E i).u = p ∧ (nth E i).v = q ∧ w = (nth E i).hi - nth h i ∨ (nth E i).v = p ∧ (nth E i).u = q ∧ w = nth h i - (nth E i).lo)
/-- What is reached: closed under steps. -/
def Clo (E : List Ed) (h : List Int) (b : Int) (R : Nat → Bool) : Prop := ∀ p q i w, R p = true → Stp E h b p q i w → R q = true
theorem clo_edge {E : List Ed} {h : List Int} {b : Int} {R : Nat → Bool} (hc : Clo E h b R) (hin : inE E h) {i : Nat} (hi : i < E.length) (hb : (i : Int) ≠ b) :
    (R (nth E i).u = true → R (nth E i).v = false → nth h i = (nth E i).hi) ∧ (R (nth E i).v = true → R (nth E i).u = false → nth h i = (nth E i).lo) := by
  have hx := hin.2 i hi
  constructor
  · intro h1 h2
    by_cases h3 : 0 < (nth E i).hi - nth h i
    · have := hc _ _ i _ h1 ⟨hi, hb, h3, .inl ⟨rfl, rfl, rfl⟩⟩
      rw [this] at h2; cases h2
    · omega
  · intro h1 h2
    by_cases h3 : 0 < nth h i - (nth E i).lo
    · have := hc _ _ i _ h1 ⟨hi, hb, h3, .inr ⟨rfl, rfl, rfl⟩⟩
      rw [this] at h2; cases h2
    · omega
end Go.Oct.Tri
