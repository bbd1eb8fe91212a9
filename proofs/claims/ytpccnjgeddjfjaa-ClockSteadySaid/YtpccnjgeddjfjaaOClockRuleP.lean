/- ClockRule, plain: widths of weeks; clocks turned round. -/
import Derived.Test.YtpccnjgeddjfjaaOClockRanL
set_option maxRecDepth 100000
set_option maxHeartbeats 4000000
set_option linter.unusedVariables false
set_option linter.unusedSimpArgs false
namespace Go.Oct.Clock
open Go.Oct
theorem minF_at (f : Nat → Int) : ∀ n, ∃ i, i ≤ n ∧ f i = minF f n
  | 0 => ⟨0, Nat.le_refl _, rfl⟩
  | n + 1 => by
    obtain ⟨i, h1, h2⟩ := minF_at f n
    simp only [minF]
    by_cases h : minF f n ≤ f (n + 1)
    · exact ⟨i, by omega, by omega⟩
    · exact ⟨n + 1, Nat.le_refl _, by omega⟩
theorem maxF_at (f : Nat → Int) : ∀ n, ∃ i, i ≤ n ∧ f i = maxF f n
  | 0 => ⟨0, Nat.le_refl _, rfl⟩
  | n + 1 => by
    obtain ⟨i, h1, h2⟩ := maxF_at f n
    simp only [maxF]
    by_cases h : f (n + 1) ≤ maxF f n
    · exact ⟨i, by omega, by omega⟩
    · exact ⟨n + 1, Nat.le_refl _, by omega⟩
theorem minF_le' {f : Nat → Int} : ∀ {n q : Nat}, q ≤ n → minF f n ≤ f q
  | 0, q, h => by obtain rfl : q = 0 := by omega
                  exact Int.le_refl _
  | n + 1, q, h => by
    simp only [minF]
    by_cases e : q = n + 1
    · subst e; omega
    · have := minF_le' (f := f) (show q ≤ n by omega); omega
theorem le_maxF' {f : Nat → Int} : ∀ {n q : Nat}, q ≤ n → f q ≤ maxF f n
  | 0, q, h => by obtain rfl : q = 0 := by omega
                  exact Int.le_refl _
  | n + 1, q, h => by
    simp only [maxF]
    by_cases e : q = n + 1
    · subst e; omega
    · have := le_maxF' (f := f) (show q ≤ n by omega); omega
/-- The width, as far as pairs were looked at. -/
structure WideTo (w : List Int) (P : Nat → Nat → Prop) (W : Int) : Prop where
  nn : 0 ≤ W
  ge : ∀ a b, P a b → nth w a - nth w b ≤ W
  at_ : W = 0 ∨ ∃ a b, a < w.length ∧ b < w.length ∧ nth w a - nth w b = W
theorem WideTo.bd {w : List Int} {P : Nat → Nat → Prop} {W : Int} (h : WideTo w P W) (hw : okWeeks w) : 0 ≤ W ∧ W ≤ 200000 := by
  refine ⟨h.nn, ?_⟩
  rcases h.at_ with h1 | ⟨a, b, h1, h2, h3⟩
  · omega
  · have := hw.2 a h1
    have := hw.2 b h2
    omega
theorem WideTo.step {w : List Int} {P Q : Nat → Nat → Prop} {W : Int} {a b : Nat} (h : WideTo w P W) (ha : a < w.length) (hb : b < w.length) (hq : ∀ x y, Q x y → P x y ∨ (x = a ∧ y = b)) : WideTo w Q (max W (nth w a - nth w b)) := by
  refine ⟨by have := h.nn; omega, fun x y hxy => ?_, ?_⟩
  · rcases hq x y hxy with h1 | ⟨rfl, rfl⟩
    · have := h.ge x y h1; omega
    · omega
  · by_cases h1 : nth w a - nth w b ≤ W
    · rw [Int.max_eq_left h1]
      exact h.at_
    · exact .inr ⟨a, b, ha, hb, by omega⟩
theorem WideTo.all {w : List Int} {P : Nat → Nat → Prop} {W : Int} (h : WideTo w P W) (hl : 1 ≤ w.length) (hP : ∀ a b, a < w.length → b < w.length → P a b) : W = maxF (nth w) (w.length - 1) - minF (nth w) (w.length - 1) := by
  obtain ⟨i, i1, i2⟩ := maxF_at (nth w) (w.length - 1)
  obtain ⟨k, k1, k2⟩ := minF_at (nth w) (w.length - 1)
  have h1 := h.ge i k (hP i k (by omega) (by omega))
  rcases h.at_ with h2 | ⟨a, b, h2, h3, h4⟩
  · have := minF_le' (f := nth w) (n := w.length - 1) (q := 0) (by omega)
    have := le_maxF' (f := nth w) (n := w.length - 1) (q := 0) (by omega)
    omega
  · have := minF_le' (f := nth w) (n := w.length - 1) (q := b) (by omega)
    have := le_maxF' (f := nth w) (n := w.length - 1) (q := a) (by omega)
    omega
/-! ### Turned round -/
def turnL (l : List Ent) (by_ : Nat) : List Ent := l.drop by_ ++ l.take by_
def turnI (n by_ i : Nat) : Nat := (i + by_) % n
theorem turn_len (l : List Ent) (b : Nat) (h : b < l.length) : (turnL l b).length = l.length := by unfold turnL; simp; omega
theorem turn_nth {l : List Ent} {b i : Nat} (hb : b < l.length) (hi : i < l.length) : nth (turnL l b) i = nth l (turnI l.length b i) := by
  unfold turnL turnI
  by_cases h : i < l.length - b
  · rw [nth_append_left (by simp; omega), nth_drop (by omega), Nat.mod_eq_of_lt (by omega), Nat.add_comm]
  · rw [nth_append_right (by simp; omega) (by simp; omega)]
    have e : (i + b) % l.length = i + b - l.length := by
      rw [Nat.mod_eq_sub_mod (by omega), Nat.mod_eq_of_lt (by omega)]
    rw [e, nth_take (by simp; omega) (by simp; omega)]
    congr 1
    simp
    omega
theorem turnI_lt {n b i : Nat} (h : 0 < n) : turnI n b i < n := Nat.mod_lt _ h
theorem turnI_inj {n b i k : Nat} (hb : b < n) (hi : i < n) (hk : k < n) (h : turnI n b i = turnI n b k) : i = k := by
  unfold turnI at h
  by_cases h1 : i + b < n
  · by_cases h2 : k + b < n
    · rw [Nat.mod_eq_of_lt h1, Nat.mod_eq_of_lt h2] at h; omega
    · rw [Nat.mod_eq_of_lt h1, Nat.mod_eq_sub_mod (by omega), Nat.mod_eq_of_lt (by omega)] at h; omega
  · by_cases h2 : k + b < n
    · rw [Nat.mod_eq_sub_mod (by omega), Nat.mod_eq_of_lt (by omega), Nat.mod_eq_of_lt h2] at h; omega
    · rw [Nat.mod_eq_sub_mod (by omega), Nat.mod_eq_of_lt (by omega), Nat.mod_eq_sub_mod (by omega), Nat.mod_eq_of_lt (by omega)] at h; omega
theorem ne_names {l : List Ent} (h : okTri l) {a b : Nat} (hab : a ≠ b) (ha : a < l.length) (hb : b < l.length) : (nth l a).name ≠ (nth l b).name := by
  rcases Nat.lt_or_ge a b with h1 | h1
  · exact tri_ne h h1 hb
  · exact fun e => tri_ne h (show b < a by omega) ha e.symm
theorem wk_same {l : List Ent} (h : okTri l) {a : Nat} (ha : a < l.length) : ((nth l a).weeks.length : Int) = (nth l 0).weeks.length := (h.2 a ha).1.2.2
theorem turn_ok {l : List Ent} (h : okTri l) {b : Nat} (hb : b < l.length) : okTri (turnL l b) := by
  have hl := turn_len l b hb
  refine ⟨by rw [hl]; exact h.1, fun i hi => ?_⟩
  rw [hl] at hi
  have h0 := turn_nth hb hi
  have hlt : turnI l.length b i < l.length := turnI_lt (by omega)
  obtain ⟨⟨a1, a2, a3⟩, a4, _⟩ := h.2 _ hlt
  refine ⟨⟨by rw [h0]; exact a1, by rw [h0]; exact a2, ?_⟩, ?_, ?_⟩
  · rw [h0, turn_nth hb (by omega)]
    have := wk_same h (a := turnI l.length b 0) (turnI_lt (by omega))
    omega
  · intro k hk
    rw [h0] at hk ⊢
    exact a4 k hk
  · intro k hk
    rw [h0, turn_nth hb (by omega)]
    exact ne_names h (fun e => by have := turnI_inj hb (by omega) hi e; omega) (turnI_lt (by omega)) hlt
theorem turn_ord {l : List Ent} (h : okTri l) {b : Nat} (hb : b < l.length) : (ordR (turnL l b) l.length).map (turnI l.length b) = ordR l l.length := by
  have hl := turn_len l b hb
  have hlt : ∀ a c, a < l.length → c < l.length → (ltI (turnL l b) a c ↔ ltI l (turnI l.length b a) (turnI l.length b c)) := fun a c ha hc => by
    unfold ltI ltE enAt
    simp only [turn_nth hb ha, turn_nth hb hc]
  have ht := turn_ok h hb
  have hs := ordR_sorted ht l.length (by omega)
  have hs0 := ordR_sorted h l.length (Nat.le_refl _)
  have l1 := ordR_len (turnL l b) l.length
  have l2 := ordR_len l l.length
  refine sorted_uniq (lt := ltI l) (fun a b c => ltE_trans) (fun a => ltE_irrefl _) ?_ (fun p q h1 h2 => ?_) (fun p q h1 h2 => ?_)
  · refine ((ordR_perm (turnL l b) l.length).map _).trans (List.Perm.trans ?_ (ordR_perm l l.length).symm)
    refine (List.perm_ext_iff_of_nodup ?_ List.nodup_range).2 fun a => ?_
    · refine List.pairwise_iff_getElem.2 fun i k hi hk hik => ?_
      simp only [List.length_map, List.length_range] at hi hk
      simp only [List.getElem_map, List.getElem_range]
      intro e
      have := turnI_inj hb hi hk e
      omega
    · simp only [List.mem_map, List.mem_range]
      constructor
      · rintro ⟨i, hi, rfl⟩; exact turnI_lt (by omega)
      · intro ha
        by_cases h1 : b ≤ a
        · exact ⟨a - b, by omega, by unfold turnI; rw [Nat.sub_add_cancel h1, Nat.mod_eq_of_lt ha]⟩
        · refine ⟨a + l.length - b, by omega, ?_⟩
          unfold turnI
          rw [show a + l.length - b + b = a + l.length by omega, Nat.add_mod_right, Nat.mod_eq_of_lt ha]
  · rw [List.length_map] at h2
    rw [nth_map _ (by omega), nth_map _ h2]
    have := List.pairwise_iff_getElem.1 hs p q (by omega) h2 h1
    rw [← nth_eq (by omega), ← nth_eq h2] at this
    exact (hlt _ _ (ordR_lt (nth_mem (by omega))) (ordR_lt (nth_mem h2))).1 this
  · have := List.pairwise_iff_getElem.1 hs0 p q (by omega) h2 h1
    rw [← nth_eq (by omega), ← nth_eq h2] at this
    exact this
end Go.Oct.Clock
