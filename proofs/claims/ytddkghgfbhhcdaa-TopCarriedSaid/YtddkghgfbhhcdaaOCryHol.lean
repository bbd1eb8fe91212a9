/- A truth's errors lie in the cone. -/
import Derived.Test.YtddkghgfbhhcdaaOCryCho
import Derived.Test.YtddkghgfbhhcdaaOCryConW
import Derived.Test.YtddkghgfbhhcdaaOCryErr2
set_option maxRecDepth 100000
set_option maxHeartbeats 2000000
set_option linter.unusedVariables false
set_option linter.unusedSimpArgs false
namespace Go.Oct.Cry
open Go.Oct
theorem minF_le {f : Nat → Int} : ∀ {n q : Nat}, q ≤ n → minF f n ≤ f q
  | 0, q, h => by obtain rfl : q = 0 := by omega
                  exact Int.le_refl _
  | n + 1, q, h => by
    simp only [minF]
    by_cases e : q = n + 1
    · subst e; omega
    · have := minF_le (f := f) (show q ≤ n by omega); omega
theorem le_maxF {f : Nat → Int} : ∀ {n q : Nat}, q ≤ n → f q ≤ maxF f n
  | 0, q, h => by obtain rfl : q = 0 := by omega
                  exact Int.le_refl _
  | n + 1, q, h => by
    simp only [maxF]
    by_cases e : q = n + 1
    · subst e; omega
    · have := le_maxF (f := f) (show q ≤ n by omega); omega
section
variable {T : List Int} {R : List Span} {a e : Span} {D : List Span} {A : List Int} {g f : Int} {B : List Int}
/-- What a day adds lies between what Rate tells. -/
theorem inc_in (h : okClk T R a e) (hd : okDays T D) (ht : okTru R a e D A g f B) {i : Nat} (hi : i < D.length) :
    (rateS T R a (nth B i) i).lo ≤ rt T (nth A) (nth B i) + g * i ∧ rt T (nth A) (nth B i) + g * i ≤ (rateS T R a (nth B i) i).hi := by
  have hb := tru_in hd ht hi
  have hk := kOf_at (okT_of h) hb.1 hb.2
  have hRl : R.length = T.length := by have := h.1.2.1; omega
  have hA : ∀ q, q < T.length → (nth R q).lo ≤ nth A q ∧ nth A q ≤ (nth R q).hi := fun q hq => by
    have := ht.1.2 q (by omega)
    unfold inS at this
    exact this
  have m1 : rt T (fun q => (nth R q).lo) (nth B i) ≤ rt T (nth A) (nth B i) := rv_mono (okT_of h) hk fun q hq => (hA q hq).1
  have m2 : rt T (nth A) (nth B i) ≤ rt T (fun q => (nth R q).hi) (nth B i) := rv_mono (okT_of h) hk fun q hq => (hA q hq).2
  have hg := ht.1.1.2.2.1
  unfold inS at hg
  have g1 := Int.mul_le_mul_of_nonneg_right hg.1 (show (0 : Int) ≤ i by omega)
  have g2 := Int.mul_le_mul_of_nonneg_right hg.2 (show (0 : Int) ≤ i by omega)
  simp only [rateS]
  omega
theorem acc_in (h : okClk T R a e) (hd : okDays T D) (ht : okTru R a e D A g f B) : ∀ i, i ≤ D.length → (coneAt T R a e D i).lo ≤ accE T A g f B i ∧ accE T A g f B i ≤ (coneAt T R a e D i).hi
  | 0, _ => by
    have := ht.1.1.2.2.2
    unfold inS at this
    exact this
  | i + 1, hi => by
    have h1 := acc_in h hd ht i (by omega)
    have h2 := inc_in h hd ht (show i < D.length by omega)
    have h3 := ht.2 i (by omega)
    unfold inS at h3
    have e1 : (nth D i).lo + ((nth B i - (nth D i).lo).toNat : Int) = nth B i := by omega
    have q1 := minF_le (f := fun q => (rateS T R a ((nth D i).lo + q) i).lo) (n := ((nth D i).hi - (nth D i).lo).toNat) (q := (nth B i - (nth D i).lo).toNat) (by omega)
    have q2 := le_maxF (f := fun q => (rateS T R a ((nth D i).lo + q) i).hi) (n := ((nth D i).hi - (nth D i).lo).toNat) (q := (nth B i - (nth D i).lo).toNat) (by omega)
    simp only [e1] at q1 q2
    simp only [accE, coneAt, dayR, dayF]
    omega
theorem chosen_tru (h : okClk T R a e) (hd : okDays T D) (b : List Int) (z : Int) : okTru R a e D (chR b R (z + 2) R.length) (chz a.lo a.hi (pick b z)) (chz e.lo e.hi (pick b (z + 1))) (chR b D (z + 3) D.length) := by
  have hRl : R.length = T.length := by have := h.1.2.1; omega
  have ha := h.1.2.2.1
  have he := h.1.2.2.2
  unfold isIn at ha he
  have nthR : ∀ (l : List Span) (o : Int) (n i : Nat), i < n → nth (chR b l o n) i = chz (nth l i).lo (nth l i).hi (pick b (o + (i : Int))) := fun l o n i hi => by
    have h2 := nth_get? (xs := chR b l o n) (i := i) (by rw [chR_len]; exact hi)
    unfold chR at h2 ⊢
    rw [List.getElem?_map, List.getElem?_range hi] at h2
    simpa using h2.symm
  refine ⟨⟨⟨by rw [chR_len], by rw [chR_len], chz_in ha.2.1, chz_in he.2.1⟩, fun i hi => ?_⟩, fun i hi => ?_⟩
  · rw [nthR _ _ _ _ hi]
    have := (h.2 i (by omega)).2.2
    unfold isIn at this
    exact chz_in this.2.1
  · rw [nthR _ _ _ _ hi]
    have := hd.2 i hi
    unfold isIn at this
    exact chz_in this.2.1
end
theorem nth_errs {T A : List Int} {g f : Int} {B : List Int} {n i : Nat} (h : i < n) : nth (errs T A g f B n) i = accE T A g f B (i + 1) := by
  have h2 := nth_get? (xs := errs T A g f B n) (i := i) (by rw [errs_len]; exact h)
  unfold errs at h2 ⊢
  rw [List.getElem?_map, List.getElem?_range h] at h2
  simpa using h2.symm
theorem nth_cones {T : List Int} {R : List Span} {a e : Span} {D : List Span} {n i : Nat} (h : i < n) : nth (cones T R a e D n) i = coneAt T R a e D (i + 1) := by
  have h2 := nth_get? (xs := cones T R a e D n) (i := i) (by rw [cones_len]; exact h)
  unfold cones at h2 ⊢
  rw [List.getElem?_map, List.getElem?_range h] at h2
  simpa using h2.symm
end Go.Oct.Cry
