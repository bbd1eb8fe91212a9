/- Narrower spans: a narrower cone. -/
import Derived.Test.YtpccnjgeddjfjaaOClockHol
set_option maxRecDepth 100000
set_option maxHeartbeats 2000000
set_option linter.unusedVariables false
set_option linter.unusedSimpArgs false
namespace Go.Oct.Clock
open Go.Oct
theorem minF_ex (f : Nat → Int) : ∀ n, ∃ q, q ≤ n ∧ minF f n = f q
  | 0 => ⟨0, Nat.le_refl _, rfl⟩
  | n + 1 => by
    obtain ⟨q, h1, h2⟩ := minF_ex f n
    simp only [minF]
    by_cases h : minF f n ≤ f (n + 1)
    · exact ⟨q, by omega, by omega⟩
    · exact ⟨n + 1, Nat.le_refl _, by omega⟩
theorem maxF_ex (f : Nat → Int) : ∀ n, ∃ q, q ≤ n ∧ maxF f n = f q
  | 0 => ⟨0, Nat.le_refl _, rfl⟩
  | n + 1 => by
    obtain ⟨q, h1, h2⟩ := maxF_ex f n
    simp only [maxF]
    by_cases h : f (n + 1) ≤ maxF f n
    · exact ⟨q, by omega, by omega⟩
    · exact ⟨n + 1, Nat.le_refl _, by omega⟩
def sub (s t : Span) : Prop := t.lo ≤ s.lo ∧ s.lo ≤ s.hi ∧ s.hi ≤ t.hi
section
variable {T : List Int} {R R' : List Span} {a a' e e' : Span} {D D' : List Span}
theorem sub_clk (h : okClk T R a e) (hR : R'.length = R.length) (hr : ∀ i, i < R.length → sub (nth R' i) (nth R i)) (ha : sub a' a) (he : sub e' e) : okClk T R' a' e' := by
  obtain ⟨⟨h1, h2, h3, h4⟩, h5⟩ := h
  unfold isIn at h3 h4
  unfold sub at ha he
  refine ⟨⟨h1, by omega, by unfold isIn; omega, by unfold isIn; omega⟩, fun i hi => ⟨(h5 i hi).1, (h5 i hi).2.1, ?_⟩⟩
  have q1 := (h5 i hi).2.2
  have q2 := hr i (by omega)
  unfold isIn at q1 ⊢
  unfold sub at q2
  omega
theorem sub_days (h : okDays T D) (hD : D'.length = D.length) (hd : ∀ i, i < D.length → sub (nth D' i) (nth D i)) : okDays T D' := by
  obtain ⟨h1, h2⟩ := h
  refine ⟨by omega, fun i hi => ?_⟩
  have q1 := h2 i (by omega)
  have q2 := hd i (by omega)
  unfold isIn at q1 ⊢
  unfold sub at q2
  omega
theorem sub_rate (h : okClk T R a e) (hr : ∀ i, i < R.length → sub (nth R' i) (nth R i)) (ha : sub a' a) {t : Int} {i : Nat} (h1 : nth T 0 ≤ t) (h2 : t ≤ nth T (T.length - 1)) :
    (rateS T R a t i).lo ≤ (rateS T R' a' t i).lo ∧ (rateS T R' a' t i).hi ≤ (rateS T R a t i).hi := by
  have hRl : R.length = T.length := by have := h.1.2.1; omega
  have hk := kOf_at (okT_of h) h1 h2
  have q1 : rt T (fun i => (nth R i).lo) t ≤ rt T (fun i => (nth R' i).lo) t := rv_mono (okT_of h) hk fun q hq => (hr q (by omega)).1
  have q2 : rt T (fun i => (nth R' i).hi) t ≤ rt T (fun i => (nth R i).hi) t := rv_mono (okT_of h) hk fun q hq => (hr q (by omega)).2.2
  unfold sub at ha
  have g1 := Int.mul_le_mul_of_nonneg_right ha.1 (show (0 : Int) ≤ i by omega)
  have g2 := Int.mul_le_mul_of_nonneg_right ha.2.2 (show (0 : Int) ≤ i by omega)
  simp only [rateS]
  omega
theorem sub_day (h : okClk T R a e) (hdy : okDays T D) (hr : ∀ i, i < R.length → sub (nth R' i) (nth R i)) (ha : sub a' a) {i : Nat} (hi : i < D.length) (hd : sub (nth D' i) (nth D i)) :
    (dayR T R a (nth D i) i).lo ≤ (dayR T R' a' (nth D' i) i).lo ∧ (dayR T R' a' (nth D' i) i).hi ≤ (dayR T R a (nth D i) i).hi := by
  unfold sub at hd
  constructor
  · obtain ⟨q, h1, h2⟩ := minF_ex (fun q => (rateS T R' a' ((nth D' i).lo + q) i).lo) ((nth D' i).hi - (nth D' i).lo).toNat
    have e1 : (nth D i).lo + (((nth D' i).lo + q - (nth D i).lo).toNat : Int) = (nth D' i).lo + q := by omega
    have hin := day_in hdy hi (q := ((nth D' i).lo + q - (nth D i).lo).toNat) (by omega)
    rw [e1] at hin
    have h3 := minF_le (f := fun q => (rateS T R a ((nth D i).lo + q) i).lo) (n := ((nth D i).hi - (nth D i).lo).toNat) (q := ((nth D' i).lo + q - (nth D i).lo).toNat) (by omega)
    simp only [e1] at h3
    have h4 := (sub_rate h hr ha (i := i) hin.1 hin.2).1
    simp only [dayR, dayF]
    rw [h2]
    omega
  · obtain ⟨q, h1, h2⟩ := maxF_ex (fun q => (rateS T R' a' ((nth D' i).lo + q) i).hi) ((nth D' i).hi - (nth D' i).lo).toNat
    have e1 : (nth D i).lo + (((nth D' i).lo + q - (nth D i).lo).toNat : Int) = (nth D' i).lo + q := by omega
    have hin := day_in hdy hi (q := ((nth D' i).lo + q - (nth D i).lo).toNat) (by omega)
    rw [e1] at hin
    have h3 := le_maxF (f := fun q => (rateS T R a ((nth D i).lo + q) i).hi) (n := ((nth D i).hi - (nth D i).lo).toNat) (q := ((nth D' i).lo + q - (nth D i).lo).toNat) (by omega)
    simp only [e1] at h3
    have h4 := (sub_rate h hr ha (i := i) hin.1 hin.2).2
    simp only [dayR, dayF]
    rw [h2]
    omega
theorem sub_cone (h : okClk T R a e) (hdy : okDays T D) (hr : ∀ i, i < R.length → sub (nth R' i) (nth R i)) (ha : sub a' a) (he : sub e' e) (hd : ∀ i, i < D.length → sub (nth D' i) (nth D i)) :
    ∀ i, i ≤ D.length → (coneAt T R a e D i).lo ≤ (coneAt T R' a' e' D' i).lo ∧ (coneAt T R' a' e' D' i).hi ≤ (coneAt T R a e D i).hi
  | 0, _ => ⟨he.1, he.2.2⟩
  | i + 1, hi => by
    have h1 := sub_cone h hdy hr ha he hd i (by omega)
    have h2 := sub_day h hdy hr ha (show i < D.length by omega) (hd i (by omega))
    simp only [coneAt]
    omega
end
end Go.Oct.Clock
