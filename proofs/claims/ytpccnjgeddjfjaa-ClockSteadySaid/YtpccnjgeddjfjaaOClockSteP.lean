/- ClockSteady, plain: trial numbers of weeks that grow by the same, that come in the opposite order, or with their signs turned. -/
import Derived.Test.YtpccnjgeddjfjaaOClockRuleP
set_option maxRecDepth 100000
set_option maxHeartbeats 1000000
set_option linter.unusedVariables false
set_option linter.unusedSimpArgs false
namespace Go.Oct.Clock
open Go.Oct
theorem stepF_ge {w : List Int} : ∀ {n i : Nat}, i < n → nth w (i + 1) - nth w i ≤ stepF w n ∧ -(nth w (i + 1) - nth w i) ≤ stepF w n
  | n + 1, i, h => by
    simp only [stepF]
    by_cases e : i = n
    · subst e; omega
    · have := stepF_ge (w := w) (n := n) (i := i) (by omega)
      omega
theorem stepF_nn (w : List Int) : ∀ n, 0 ≤ stepF w n
  | 0 => Int.le_refl _
  | n + 1 => by
    have := stepF_nn w n
    simp only [stepF]
    omega
theorem stepF_at {w : List Int} : ∀ n, stepF w n = 0 ∨ ∃ i, i < n ∧ (stepF w n = nth w (i + 1) - nth w i ∨ stepF w n = -(nth w (i + 1) - nth w i))
  | 0 => .inl rfl
  | n + 1 => by
    simp only [stepF]
    by_cases h : nth w (n + 1) - nth w n ≤ stepF w n ∧ -(nth w (n + 1) - nth w n) ≤ stepF w n
    · rw [show max (stepF w n) (max (nth w (n + 1) - nth w n) (-(nth w (n + 1) - nth w n))) = stepF w n by omega]
      rcases stepF_at (w := w) n with h1 | ⟨i, h1, h2⟩
      · exact .inl h1
      · exact .inr ⟨i, by omega, h2⟩
    · exact .inr ⟨n, by omega, by omega⟩
theorem num_le {w w' : List Int} (hl : 1 ≤ w.length) (hl' : w'.length = w.length)
    (hd : ∀ a b, a < w.length → b < w.length → ∃ a' b', a' < w.length ∧ b' < w.length ∧ nth w' a - nth w' b = nth w a' - nth w b')
    (hs : ∀ i, i + 1 < w.length → ∃ j, j + 1 < w.length ∧ (nth w' (i + 1) - nth w' i = nth w (j + 1) - nth w j ∨ nth w' (i + 1) - nth w' i = -(nth w (j + 1) - nth w j))) : numV w' ≤ numV w := by
  unfold numV
  rw [hl']
  obtain ⟨a, a1, a2⟩ := maxF_at (nth w') (w.length - 1)
  obtain ⟨b, b1, b2⟩ := minF_at (nth w') (w.length - 1)
  obtain ⟨a', b', h1, h2, h3⟩ := hd a b (by omega) (by omega)
  have h4 := le_maxF' (f := nth w) (n := w.length - 1) (q := a') (by omega)
  have h5 := minF_le' (f := nth w) (n := w.length - 1) (q := b') (by omega)
  have h6 : stepF w' (w.length - 1) ≤ stepF w (w.length - 1) := by
    rcases stepF_at (w := w') (w.length - 1) with h | ⟨i, hi, h⟩
    · rw [h]; exact stepF_nn _ _
    · obtain ⟨j, j1, j2⟩ := hs i (by omega)
      have := stepF_ge (w := w) (n := w.length - 1) (i := j) (by omega)
      omega
  omega
theorem nth_rev {w : List Int} {i : Nat} (h : i < w.length) : nth w.reverse i = nth w (w.length - 1 - i) := by
  rw [nth_eq (by simpa using h), nth_eq (by omega), List.getElem_reverse]
def growW (c : Int) (w : List Int) : List Int := w.map (· + c)
def negW (w : List Int) : List Int := w.map fun x => -x
theorem grow_nth {c : Int} {w : List Int} {i : Nat} (h : i < w.length) : nth (growW c w) i = nth w i + c := nth_map _ h
theorem neg_nth {w : List Int} {i : Nat} (h : i < w.length) : nth (negW w) i = -nth w i := nth_map _ h
theorem grow_len (c : Int) (w : List Int) : (growW c w).length = w.length := by simp [growW]
theorem neg_len (w : List Int) : (negW w).length = w.length := by simp [negW]
theorem num_grow (c : Int) {w : List Int} (hl : 1 ≤ w.length) : numV (growW c w) = numV w := by
  have hlen := grow_len c w
  refine Int.le_antisymm (num_le hl hlen (fun a b ha hb => ⟨a, b, ha, hb, ?_⟩) fun i hi => ⟨i, hi, .inl ?_⟩) (num_le (by omega) hlen.symm (fun a b ha hb => ⟨a, b, ha, hb, ?_⟩) fun i hi => ⟨i, hi, .inl ?_⟩)
  · rw [grow_nth ha, grow_nth hb]; omega
  · rw [grow_nth hi, grow_nth (by omega)]; omega
  · rw [hlen] at ha hb; rw [grow_nth ha, grow_nth hb]; omega
  · rw [hlen] at hi; rw [grow_nth hi, grow_nth (by omega)]; omega
theorem num_neg {w : List Int} (hl : 1 ≤ w.length) : numV (negW w) = numV w := by
  have hlen := neg_len w
  refine Int.le_antisymm (num_le hl hlen (fun a b ha hb => ⟨b, a, hb, ha, ?_⟩) fun i hi => ⟨i, hi, .inr ?_⟩) (num_le (by omega) hlen.symm (fun a b ha hb => ⟨b, a, hb, ha, ?_⟩) fun i hi => ⟨i, hi, .inr ?_⟩)
  · rw [neg_nth ha, neg_nth hb]; omega
  · rw [neg_nth hi, neg_nth (by omega)]; omega
  · rw [hlen] at ha hb; rw [neg_nth ha, neg_nth hb]; omega
  · rw [hlen] at hi; rw [neg_nth hi, neg_nth (by omega)]; omega
theorem num_rev {w : List Int} (hl : 1 ≤ w.length) : numV w.reverse = numV w := by
  have hlen : w.reverse.length = w.length := List.length_reverse
  refine Int.le_antisymm (num_le hl hlen (fun a b ha hb => ⟨w.length - 1 - a, w.length - 1 - b, by omega, by omega, ?_⟩) fun i hi => ⟨w.length - 1 - (i + 1), by omega, .inr ?_⟩) (num_le (by omega) hlen.symm (fun a b ha hb => ⟨w.length - 1 - a, w.length - 1 - b, by omega, by omega, ?_⟩) fun i hi => ⟨w.length - 1 - (i + 1), by omega, .inr ?_⟩)
  · rw [nth_rev ha, nth_rev hb]
  · rw [nth_rev hi, nth_rev (by omega), show w.length - 1 - (i + 1) + 1 = w.length - 1 - i by omega]; omega
  · rw [hlen] at ha hb
    rw [nth_rev (by omega), nth_rev (by omega), show w.length - 1 - (w.length - 1 - a) = a by omega, show w.length - 1 - (w.length - 1 - b) = b by omega]
  · rw [hlen] at hi
    rw [nth_rev (by omega), nth_rev (by omega), show w.length - 1 - (w.length - 1 - (i + 1) + 1) = i by omega, show w.length - 1 - (w.length - 1 - (i + 1)) = i + 1 by omega]
    omega
theorem num_zero {w : List Int} (hl : 1 ≤ w.length) : numV w = 0 ↔ ∀ k, k < w.length → nth w k = nth w 0 := by
  unfold numV
  have h0 := stepF_nn w (w.length - 1)
  constructor
  · intro h k hk
    have h1 := le_maxF' (f := nth w) (n := w.length - 1) (q := k) (by omega)
    have h2 := minF_le' (f := nth w) (n := w.length - 1) (q := k) (by omega)
    have h3 := le_maxF' (f := nth w) (n := w.length - 1) (q := 0) (by omega)
    have h4 := minF_le' (f := nth w) (n := w.length - 1) (q := 0) (by omega)
    omega
  · intro h
    obtain ⟨a, a1, a2⟩ := maxF_at (nth w) (w.length - 1)
    obtain ⟨b, b1, b2⟩ := minF_at (nth w) (w.length - 1)
    have h1 := h a (by omega)
    have h2 := h b (by omega)
    have h3 : stepF w (w.length - 1) = 0 := by
      rcases stepF_at (w := w) (w.length - 1) with h3 | ⟨i, i1, i2⟩
      · exact h3
      · have := h i (by omega)
        have := h (i + 1) (by omega)
        omega
    omega
/-- Other weeks, the same names. -/
def mapE (f : List Int → List Int) (l : List Ent) : List Ent := l.map fun x => ⟨x.name, false, f x.weeks⟩
theorem mapE_len (f : List Int → List Int) (l : List Ent) : (mapE f l).length = l.length := by simp [mapE]
theorem mapE_nth {f : List Int → List Int} {l : List Ent} {i : Nat} (h : i < l.length) : nth (mapE f l) i = ⟨(nth l i).name, false, f (nth l i).weeks⟩ := nth_map _ h
theorem mapE_tri {f : List Int → List Int} {l : List Ent} (h : okTri l) (hf : ∀ i, i < l.length → (f (nth l i).weeks).length = (nth l i).weeks.length)
    (hr : ∀ i, i < l.length → ∀ k, k < (nth l i).weeks.length → inW (nth (f (nth l i).weeks) k)) : okTri (mapE f l) := by
  have hl := mapE_len f l
  refine ⟨by rw [hl]; exact h.1, fun i hi => ?_⟩
  rw [hl] at hi
  obtain ⟨⟨a1, a2, a3⟩, a4, a5⟩ := h.2 i hi
  have h0 : 0 < l.length := by omega
  have e := hf i hi
  have e0 := hf 0 h0
  refine ⟨⟨by rw [mapE_nth hi]; exact a1, ?_, ?_⟩, ?_, ?_⟩
  · rw [mapE_nth hi]
    show 2 ≤ ((f (nth l i).weeks).length : Int) ∧ ((f (nth l i).weeks).length : Int) ≤ 30
    rw [e]; exact a2
  · rw [mapE_nth hi, mapE_nth h0]
    show ((f (nth l i).weeks).length : Int) = (f (nth l 0).weeks).length
    rw [e, e0]; exact a3
  · intro k hk
    rw [mapE_nth hi] at hk ⊢
    exact hr i hi k (by rw [← e]; exact hk)
  · intro k hk
    rw [mapE_nth hi, mapE_nth (by omega)]
    exact a5 k hk
theorem mapE_nums {f : List Int → List Int} {l : List Ent} (hf : ∀ i, i < l.length → numV (f (nth l i).weeks) = numV (nth l i).weeks) : nums (mapE f l) l.length = nums l l.length := by
  have h1 := nums_len (mapE f l) l.length
  have h2 := nums_len l l.length
  refine ext_nth (by omega) fun i hi => ?_
  have hil : i < l.length := by omega
  rw [nums_nth hil, nums_nth hil, mapE_nth hil]
  exact hf i hil
end Go.Oct.Clock
