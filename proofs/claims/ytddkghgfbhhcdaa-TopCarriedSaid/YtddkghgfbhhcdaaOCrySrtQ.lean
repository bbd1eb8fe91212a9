/- Sorting spans by their lower ends, plain: what each part of the sort leaves. -/
import Derived.Test.YtddkghgfbhhcdaaOCryB0
import Derived.Test.YtddkghgfbhhcdaaOT4
set_option maxRecDepth 100000
set_option maxHeartbeats 4000000
set_option linter.unusedVariables false
set_option linter.unusedSimpArgs false
namespace Go.Oct.Cry.Fx
open Go.Oct
def kk (xs : List Span) (i : Nat) : Int := (nth xs i).lo
/-- Only the part from a to below b was moved about. -/
structure PI (a b : Nat) (xs ys : List Span) : Prop where
  perm : ys.Perm xs
  out : ∀ i, i < a ∨ b ≤ i → nth ys i = nth xs i
  frm : ∀ i, a ≤ i → i < b → ∃ j, a ≤ j ∧ j < b ∧ nth ys i = nth xs j
theorem PI.len {a b : Nat} {xs ys : List Span} (h : PI a b xs ys) : ys.length = xs.length := h.perm.length_eq
theorem PI.refl (a b : Nat) (xs : List Span) : PI a b xs xs := ⟨.refl _, fun _ _ => rfl, fun i h1 h2 => ⟨i, h1, h2, rfl⟩⟩
theorem PI.trans {a b : Nat} {xs ys zs : List Span} (h : PI a b xs ys) (k : PI a b ys zs) : PI a b xs zs :=
  ⟨k.perm.trans h.perm, fun i hi => (k.out i hi).trans (h.out i hi), fun i h1 h2 => by
    obtain ⟨j, h3, h4, h5⟩ := k.frm i h1 h2
    obtain ⟨m, h6, h7, h8⟩ := h.frm j h3 h4
    exact ⟨m, h6, h7, h5.trans h8⟩⟩
theorem PI.mono {a b a' b' : Nat} {xs ys : List Span} (h : PI a b xs ys) (ha : a' ≤ a) (hb : b ≤ b') : PI a' b' xs ys :=
  ⟨h.perm, fun i hi => h.out i (by omega), fun i h1 h2 => by
    by_cases e : a ≤ i ∧ i < b
    · obtain ⟨j, h3, h4, h5⟩ := h.frm i e.1 e.2
      exact ⟨j, by omega, by omega, h5⟩
    · exact ⟨i, h1, h2, h.out i (by omega)⟩⟩
theorem PI.swp {a b : Nat} {xs ys : List Span} (h : PI a b xs ys) {i j : Nat} (hb : b ≤ xs.length) (hi : a ≤ i ∧ i < b) (hj : a ≤ j ∧ j < b) : PI a b xs (swp ys i j) := by
  have hl := h.len
  have e : ∀ p, nth (Go.Oct.swp ys i j) p = if p = i then nth ys j else if p = j then nth ys i else nth ys p := fun p => swp_nth (by omega) (by omega)
  refine h.trans ⟨swp_perm (by omega) (by omega), fun p hp => by rw [e, if_neg (by omega), if_neg (by omega)], fun p h1 h2 => ?_⟩
  rw [e]
  by_cases e1 : p = i
  · rw [if_pos e1]; exact ⟨j, hj.1, hj.2, rfl⟩
  · rw [if_neg e1]
    by_cases e2 : p = j
    · rw [if_pos e2]; exact ⟨i, hi.1, hi.2, rfl⟩
    · rw [if_neg e2]; exact ⟨p, h1, h2, rfl⟩
theorem kk_swp {xs : List Span} {i j : Nat} (hi : i < xs.length) (hj : j < xs.length) (p : Nat) : kk (swp xs i j) p = if p = i then kk xs j else if p = j then kk xs i else kk xs p := by
  unfold kk
  rw [swp_nth hi hj]
  by_cases e1 : p = i
  · rw [if_pos e1, if_pos e1]
  · rw [if_neg e1, if_neg e1]
    by_cases e2 : p = j
    · rw [if_pos e2, if_pos e2]
    · rw [if_neg e2, if_neg e2]
theorem PI.all {a b : Nat} {xs ys : List Span} (h : PI a b xs ys) {P : Int → Prop} (hp : ∀ i, a ≤ i → i < b → P (kk xs i)) : ∀ i, a ≤ i → i < b → P (kk ys i) := fun i h1 h2 => by
  obtain ⟨j, h3, h4, h5⟩ := h.frm i h1 h2
  unfold kk
  rw [h5]
  exact hp j h3 h4
def srt (a b : Nat) (xs : List Span) : Prop := ∀ i j, a ≤ i → i < j → j < b → kk xs i ≤ kk xs j
/-- Insertion: the element at m sinks. -/
structure Snk (a j m : Nat) (xs : List Span) : Prop where
  lo : a ≤ m
  le : m ≤ j
  oth : ∀ p q, a ≤ p → p < q → q ≤ j → p ≠ m → q ≠ m → kk xs p ≤ kk xs q
  own : ∀ q, m < q → q ≤ j → kk xs m ≤ kk xs q
theorem Snk.start {a j : Nat} {xs : List Span} (ha : a ≤ j) (h : srt a j xs) : Snk a j j xs :=
  ⟨ha, Nat.le_refl _, fun p q h1 h2 h3 h4 h5 => h p q h1 h2 (by omega), fun q h1 h2 => by omega⟩
theorem Snk.step {a j m : Nat} {xs : List Span} (h : Snk a j m xs) (hj : j < xs.length) (hm : a < m) (hl : kk xs m < kk xs (m - 1)) : Snk a j (m - 1) (swp xs (m - 1) m) := by
  have h1 := h.le
  have e := kk_swp (xs := xs) (i := m - 1) (j := m) (by omega) (by omega)
  refine ⟨by omega, by omega, fun p q ha hpq hq hp1 hq1 => ?_, fun q hq1 hq2 => ?_⟩
  · rw [e p, e q, if_neg hp1, if_neg hq1]
    by_cases e1 : p = m
    · rw [if_pos e1, if_neg (by omega)]; exact h.oth (m - 1) q (by omega) (by omega) hq (by omega) (by omega)
    · rw [if_neg e1]
      by_cases e2 : q = m
      · rw [if_pos e2]; exact h.oth p (m - 1) ha (by omega) (by omega) e1 (by omega)
      · rw [if_neg e2]; exact h.oth p q ha hpq hq e1 e2
  · rw [e (m - 1), e q, if_pos rfl, if_neg (by omega)]
    by_cases e1 : q = m
    · rw [if_pos e1]; omega
    · rw [if_neg e1]; exact h.own q (by omega) hq2
theorem Snk.stop {a j m : Nat} {xs : List Span} (h : Snk a j m xs) (hl : a < m → kk xs (m - 1) ≤ kk xs m) : srt a (j + 1) xs := by
  intro p q h1 h2 h3
  by_cases e1 : p = m
  · rw [e1]; exact h.own q (by omega) (by omega)
  · by_cases e2 : q = m
    · rw [e2]
      have hm := hl (by omega)
      by_cases e3 : p = m - 1
      · rw [e3]; exact hm
      · have h4 := h.le
        have := h.oth p (m - 1) h1 (by omega) (by omega) e1 (by omega)
        omega
    · exact h.oth p q h1 h2 (by omega) e1 e2
end Go.Oct.Cry.Fx
