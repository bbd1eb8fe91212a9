/- The truths at the ends of a cone. -/
import Derived.Test.YtpccnjgeddjfjaaOClockHolW
set_option maxRecDepth 100000
set_option maxHeartbeats 2000000
set_option linter.unusedVariables false
set_option linter.unusedSimpArgs false
namespace Go.Oct.Clock
open Go.Oct
/-- Where a function is first least (greatest). -/
def coldF (f : Nat → Int) : Nat → Nat
  | 0 => 0
  | n + 1 => if f (n + 1) < f (coldF f n) then n + 1 else coldF f n
def warmF (f : Nat → Int) : Nat → Nat
  | 0 => 0
  | n + 1 => if f (n + 1) > f (warmF f n) then n + 1 else warmF f n
theorem cold_le (f : Nat → Int) : ∀ n, coldF f n ≤ n
  | 0 => Nat.le_refl _
  | n + 1 => by
    have := cold_le f n
    unfold coldF
    split <;> omega
theorem warm_le (f : Nat → Int) : ∀ n, warmF f n ≤ n
  | 0 => Nat.le_refl _
  | n + 1 => by
    have := warm_le f n
    unfold warmF
    split <;> omega
theorem cold_min (f : Nat → Int) : ∀ n, f (coldF f n) = minF f n
  | 0 => rfl
  | n + 1 => by
    have := cold_min f n
    unfold coldF minF
    split <;> omega
theorem warm_max (f : Nat → Int) : ∀ n, f (warmF f n) = maxF f n
  | 0 => rfl
  | n + 1 => by
    have := warm_max f n
    unfold warmF maxF
    split <;> omega
theorem cold_step {f : Nat → Int} {q : Nat} : coldF f (q + 1 - 1) = if f q < f (coldF f (q - 1)) then q else coldF f (q - 1) := by
  cases q with
  | zero => simp [coldF]
  | succ q => simp only [Nat.add_sub_cancel]; rw [coldF]
theorem warm_step {f : Nat → Int} {q : Nat} : warmF f (q + 1 - 1) = if f q > f (warmF f (q - 1)) then q else warmF f (q - 1) := by
  cases q with
  | zero => simp [warmF]
  | succ q => simp only [Nat.add_sub_cancel]; rw [warmF]
section
variable (T : List Int) (R : List Span) (a e : Span) (D : List Span)
/-- What a day's slowest (fastest) temperature is. -/
noncomputable def fLo (i : Nat) (q : Nat) : Int := (rateS T R a ((nth D i).lo + q) i).lo
noncomputable def fHi (i : Nat) (q : Nat) : Int := (rateS T R a ((nth D i).lo + q) i).hi
def width (i : Nat) : Nat := ((nth D i).hi - (nth D i).lo).toNat
noncomputable def colds (n : Nat) : List Int := (List.range n).map fun i => (nth D i).lo + coldF (fLo T R a D i) (width D i)
noncomputable def warms (n : Nat) : List Int := (List.range n).map fun i => (nth D i).lo + warmF (fHi T R a D i) (width D i)
theorem colds_succ (n : Nat) : colds T R a D (n + 1) = colds T R a D n ++ [(nth D n).lo + coldF (fLo T R a D n) (width D n)] := by unfold colds; rw [List.range_succ, List.map_append]; rfl
theorem warms_succ (n : Nat) : warms T R a D (n + 1) = warms T R a D n ++ [(nth D n).lo + warmF (fHi T R a D n) (width D n)] := by unfold warms; rw [List.range_succ, List.map_append]; rfl
theorem colds_len (n : Nat) : (colds T R a D n).length = n := by unfold colds; simp
theorem warms_len (n : Nat) : (warms T R a D n).length = n := by unfold warms; simp
end
theorem nth_range {α : Type} [Inhabited α] {f : Nat → α} {n i : Nat} (h : i < n) : nth ((List.range n).map f) i = f i := by
  have h2 := nth_get? (xs := (List.range n).map f) (i := i) (by simpa using h)
  rw [List.getElem?_map, List.getElem?_range h] at h2
  simpa using h2.symm
section
variable {T : List Int} {R : List Span} {a e : Span} {D : List Span}
theorem low_tru (h : okClk T R a e) (hd : okDays T D) : okTru R a e D (ends false R) a.lo e.lo (colds T R a D D.length) := by
  have hRl : R.length = T.length := by have := h.1.2.1; omega
  have ha := h.1.2.2.1
  have he := h.1.2.2.2
  unfold isIn at ha he
  refine ⟨⟨⟨by rw [ends_len], by rw [colds_len], ⟨by omega, by omega⟩, ⟨by omega, by omega⟩⟩, fun i hi => ?_⟩, fun i hi => ?_⟩
  · rw [ends_nth hi]
    have := (h.2 i (by omega)).2.2
    unfold isIn at this
    exact ⟨by simp, by simp; omega⟩
  · unfold colds
    rw [nth_range hi]
    have := hd.2 i hi
    unfold isIn at this
    have hc := cold_le (fLo T R a D i) (width D i)
    unfold width at hc ⊢
    exact ⟨by omega, by omega⟩
theorem high_tru (h : okClk T R a e) (hd : okDays T D) : okTru R a e D (ends true R) a.hi e.hi (warms T R a D D.length) := by
  have hRl : R.length = T.length := by have := h.1.2.1; omega
  have ha := h.1.2.2.1
  have he := h.1.2.2.2
  unfold isIn at ha he
  refine ⟨⟨⟨by rw [ends_len], by rw [warms_len], ⟨by omega, by omega⟩, ⟨by omega, by omega⟩⟩, fun i hi => ?_⟩, fun i hi => ?_⟩
  · rw [ends_nth hi]
    have := (h.2 i (by omega)).2.2
    unfold isIn at this
    exact ⟨by simp; omega, by simp⟩
  · unfold warms
    rw [nth_range hi]
    have := hd.2 i hi
    unfold isIn at this
    have hc := warm_le (fHi T R a D i) (width D i)
    unfold width at hc ⊢
    exact ⟨by omega, by omega⟩
theorem low_acc (h : okClk T R a e) (hd : okDays T D) : ∀ i, i ≤ D.length → accE T (ends false R) a.lo e.lo (colds T R a D D.length) i = (coneAt T R a e D i).lo
  | 0, _ => rfl
  | i + 1, hi => by
    have hRl : R.length = T.length := by have := h.1.2.1; omega
    have ht := low_tru h hd
    have hb := tru_in hd ht (i := i) (by omega)
    simp only [accE, coneAt, low_acc h hd i (by omega)]
    have e1 : rt T (nth (ends false R)) (nth (colds T R a D D.length) i) = rt T (fun q => (nth R q).lo) (nth (colds T R a D D.length) i) :=
      rv_congr (kOf_at (okT_of h) hb.1 hb.2) fun q hq => by rw [ends_nth (by omega)]; simp
    have e2 : nth (colds T R a D D.length) i = (nth D i).lo + coldF (fLo T R a D i) (width D i) := by unfold colds; rw [nth_range (by omega)]
    have e3 := cold_min (fLo T R a D i) (width D i)
    have e4 : (dayR T R a (nth D i) i).lo = minF (fLo T R a D i) (width D i) := rfl
    rw [e4, ← e3, e1, e2]
    rfl
theorem high_acc (h : okClk T R a e) (hd : okDays T D) : ∀ i, i ≤ D.length → accE T (ends true R) a.hi e.hi (warms T R a D D.length) i = (coneAt T R a e D i).hi
  | 0, _ => rfl
  | i + 1, hi => by
    have hRl : R.length = T.length := by have := h.1.2.1; omega
    have ht := high_tru h hd
    have hb := tru_in hd ht (i := i) (by omega)
    simp only [accE, coneAt, high_acc h hd i (by omega)]
    have e1 : rt T (nth (ends true R)) (nth (warms T R a D D.length) i) = rt T (fun q => (nth R q).hi) (nth (warms T R a D D.length) i) :=
      rv_congr (kOf_at (okT_of h) hb.1 hb.2) fun q hq => by rw [ends_nth (by omega)]; simp
    have e2 : nth (warms T R a D D.length) i = (nth D i).lo + warmF (fHi T R a D i) (width D i) := by unfold warms; rw [nth_range (by omega)]
    have e3 := warm_max (fHi T R a D i) (width D i)
    have e4 : (dayR T R a (nth D i) i).hi = maxF (fHi T R a D i) (width D i) := rfl
    rw [e4, ← e3, e1, e2]
    rfl
end
end Go.Oct.Clock
