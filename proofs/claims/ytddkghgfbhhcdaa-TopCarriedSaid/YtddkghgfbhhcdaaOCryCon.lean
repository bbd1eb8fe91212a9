/- Cones: what they are, and the specification's. -/
import Derived.Test.YtddkghgfbhhcdaaOCryDays
set_option maxRecDepth 100000
set_option maxHeartbeats 2000000
set_option linter.unusedVariables false
set_option linter.unusedSimpArgs false
namespace Go.Oct.Cry
open Go.Oct
theorem rv_mono {T : List Int} (hs : okT T) {r r' : Nat → Int} {t : Int} {k : Nat} (hk : At T t k) (h : ∀ i, i < T.length → r i ≤ r' i) : rv T r t k ≤ rv T r' t k := by
  have h1 := hk.lt
  have h2 := hk.le
  unfold rv
  by_cases e : nth T k = t
  · rw [if_pos e, if_pos e]; exact h k h1
  · rw [if_neg e, if_neg e]
    obtain ⟨h3, h4⟩ := hk.up.resolve_left e
    have e1 := Int.mul_le_mul_of_nonneg_right (h k h1) (show 0 ≤ nth T (k + 1) - nth T k - (t - nth T k) by omega)
    have e2 := Int.mul_le_mul_of_nonneg_right (h (k + 1) h3) (show 0 ≤ t - nth T k by omega)
    exact Int.ediv_le_ediv (by omega) (by omega)
def minF (f : Nat → Int) : Nat → Int
  | 0 => f 0
  | n + 1 => min (minF f n) (f (n + 1))
def maxF (f : Nat → Int) : Nat → Int
  | 0 => f 0
  | n + 1 => max (maxF f n) (f (n + 1))
theorem minF_bd {f : Nat → Int} {A B : Int} : ∀ n, (∀ i, i ≤ n → A ≤ f i ∧ f i ≤ B) → A ≤ minF f n ∧ minF f n ≤ B
  | 0, h => h 0 (Nat.le_refl _)
  | n + 1, h => by
    have h1 := minF_bd n fun i hi => h i (by omega)
    have h2 := h (n + 1) (Nat.le_refl _)
    simp only [minF]
    omega
theorem maxF_bd {f : Nat → Int} {A B : Int} : ∀ n, (∀ i, i ≤ n → A ≤ f i ∧ f i ≤ B) → A ≤ maxF f n ∧ maxF f n ≤ B
  | 0, h => h 0 (Nat.le_refl _)
  | n + 1, h => by
    have h1 := maxF_bd n fun i hi => h i (by omega)
    have h2 := h (n + 1) (Nat.le_refl _)
    simp only [maxF]
    omega
noncomputable def dayF (T : List Int) (R : List Span) (a d : Span) (i m : Nat) : Span := ⟨minF (fun q => (rateS T R a (d.lo + q) i).lo) m, maxF (fun q => (rateS T R a (d.lo + q) i).hi) m⟩
noncomputable def dayR (T : List Int) (R : List Span) (a d : Span) (i : Nat) : Span := dayF T R a d i (d.hi - d.lo).toNat
noncomputable def coneAt (T : List Int) (R : List Span) (a e : Span) (D : List Span) : Nat → Span
  | 0 => e
  | i + 1 => ⟨(coneAt T R a e D i).lo + (dayR T R a (nth D i) i).lo, (coneAt T R a e D i).hi + (dayR T R a (nth D i) i).hi⟩
noncomputable def cones (T : List Int) (R : List Span) (a e : Span) (D : List Span) (n : Nat) : List Span := (List.range n).map fun i => coneAt T R a e D (i + 1)
theorem cones_succ (T : List Int) (R : List Span) (a e : Span) (D : List Span) (n : Nat) : cones T R a e D (n + 1) = cones T R a e D n ++ [coneAt T R a e D (n + 1)] := by unfold cones; rw [List.range_succ, List.map_append]; rfl
theorem cones_len (T : List Int) (R : List Span) (a e : Span) (D : List Span) (n : Nat) : (cones T R a e D n).length = n := by unfold cones; simp
section
variable {T : List Int} {R : List Span} {a e : Span} {D : List Span}
theorem rateS_bd (h : okClk T R a e) {t : Int} {i : Nat} (h1 : nth T 0 ≤ t) (h2 : t ≤ nth T (T.length - 1)) (hi : i ≤ 59) :
    (-160000 ≤ (rateS T R a t i).lo ∧ (rateS T R a t i).lo ≤ 160000) ∧ (-160000 ≤ (rateS T R a t i).hi ∧ (rateS T R a t i).hi ≤ 160000) ∧ (rateS T R a t i).lo ≤ (rateS T R a t i).hi := by
  have q1 := rt_bd (okT_of h) h1 h2 (fun i hi => (rows_bd h i hi).1)
  have q2 := rt_bd (okT_of h) h1 h2 (fun i hi => (rows_bd h i hi).2)
  have ha := h.1.2.2.1
  unfold isIn at ha
  have m1 := mul_bd (a := a.lo) (b := (i : Int)) (A := 1000) (B := 59) (by omega) (by omega) (by omega) (by omega) (by omega)
  have m2 := mul_bd (a := a.hi) (b := (i : Int)) (A := 1000) (B := 59) (by omega) (by omega) (by omega) (by omega) (by omega)
  have m3 := Int.mul_le_mul_of_nonneg_right ha.2.1 (show (0 : Int) ≤ i by omega)
  have q3 : rt T (fun i => (nth R i).lo) t ≤ rt T (fun i => (nth R i).hi) t := rv_mono (okT_of h) (kOf_at (okT_of h) h1 h2) fun i hi => by
    have := (h.2 i hi).2.2
    unfold isIn at this
    omega
  simp only [rateS]
  omega
theorem day_in (hd : okDays T D) {i : Nat} (hi : i < D.length) {q : Nat} (hq : (q : Int) ≤ (nth D i).hi - (nth D i).lo) : nth T 0 ≤ (nth D i).lo + q ∧ (nth D i).lo + q ≤ nth T (T.length - 1) := by
  have h1 := hd.2 i hi
  unfold isIn at h1
  omega
theorem dayF_bd (h : okClk T R a e) (hd : okDays T D) {i : Nat} (hi : i < D.length) {m : Nat} (hm : (m : Int) ≤ (nth D i).hi - (nth D i).lo) :
    (-160000 ≤ (dayF T R a (nth D i) i m).lo ∧ (dayF T R a (nth D i) i m).lo ≤ 160000) ∧ (-160000 ≤ (dayF T R a (nth D i) i m).hi ∧ (dayF T R a (nth D i) i m).hi ≤ 160000) := by
  have hdl := hd.1
  have key : ∀ q : Nat, q ≤ m → _ := fun q hq => rateS_bd h (day_in hd hi (show (q : Int) ≤ _ by omega)).1 (day_in hd hi (show (q : Int) ≤ _ by omega)).2 (show i ≤ 59 by omega)
  exact ⟨minF_bd m fun q hq => (key q hq).1, maxF_bd m fun q hq => (key q hq).2.1⟩
theorem cone_bd (h : okClk T R a e) (hd : okDays T D) : ∀ i, i ≤ D.length → (-10000000 - 160000 * (i : Int) ≤ (coneAt T R a e D i).lo ∧ (coneAt T R a e D i).lo ≤ 10000000 + 160000 * (i : Int)) ∧ (-10000000 - 160000 * (i : Int) ≤ (coneAt T R a e D i).hi ∧ (coneAt T R a e D i).hi ≤ 10000000 + 160000 * (i : Int))
  | 0, _ => by
    have h1 := h.1.2.2.2
    unfold isIn at h1
    simp only [coneAt]
    omega
  | i + 1, hi => by
    have h1 := cone_bd h hd i (by omega)
    have h3 := hd.2 i (by omega)
    unfold isIn at h3
    have h2 := dayF_bd h hd (i := i) (by omega) (m := ((nth D i).hi - (nth D i).lo).toNat) (by omega)
    simp only [coneAt, dayR]
    omega
end
end Go.Oct.Cry
