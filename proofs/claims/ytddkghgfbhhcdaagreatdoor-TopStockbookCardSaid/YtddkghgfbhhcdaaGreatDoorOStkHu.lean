/- Whoever makes pieces of the greatest levels first finishes as early as can be, plain. -/
import Derived.Test.YtddkghgfbhhcdaaGreatDoorOStkLev
set_option maxRecDepth 100000
set_option maxHeartbeats 2000000
set_option linter.unusedVariables false
set_option linter.unusedSimpArgs false
namespace Go.Oct.Stk.Sh
open Go.Oct
/-- Can a piece be made? -/
def av (l : List Pc) (D : Nat → Bool) (i : Nat) : Bool := decide (i < l.length) && !D i && decide (∀ k, k < l.length → (nth l k).into = (i : Int) → D k = true)
theorem av_iff {l : List Pc} {D : Nat → Bool} {i : Nat} : av l D i = true ↔ i < l.length ∧ D i = false ∧ ∀ k, k < l.length → (nth l k).into = (i : Int) → D k = true := by
  unfold av
  simp only [Bool.and_eq_true, decide_eq_true_eq, Bool.not_eq_true', and_assoc]
structure Runs (l : List Pc) (m : Nat) (S : Nat → List Nat) (D : Nat → Nat → Bool) (T : Nat) : Prop where
  d0 : ∀ i, D 0 i = false
  step : ∀ t, t < T → ∀ i, D (t + 1) i = (D t i || (S t).contains i)
  nd : ∀ t, t < T → (S t).Nodup
  sub : ∀ t, t < T → ∀ i ∈ S t, av l (D t) i = true
  len : ∀ t, t < T → (S t).length = min m (cnt (av l (D t)) l.length)
  top : ∀ t, t < T → ∀ a ∈ S t, ∀ b, av l (D t) b = true → b ∉ S t → lev l b ≤ lev l a
  ne : ∀ t, t < T → S t ≠ []
  fin : ∀ i, i < l.length → D T i = true
theorem cnt_insert {p q : Nat → Bool} {a : Nat} (hp : p a = false) (hq : ∀ i, q i = (p i || i == a)) : ∀ {n : Nat}, cnt q n = cnt p n + if a < n then 1 else 0
  | 0 => by simp [cnt]
  | n + 1 => by
    simp only [cnt]
    rw [cnt_insert hp hq (n := n), hq n]
    by_cases e : n = a
    · subst e
      simp [hp]
    · have : (n == a) = false := by simpa using e
      rw [this, Bool.or_false]
      by_cases h : a < n
      · have h2 : a < n + 1 := by omega
        simp only [h, h2, if_true]; omega
      · have h2 : ¬ a < n + 1 := by omega
        simp only [h, h2, if_false]; omega
theorem cnt_list {p : Nat → Bool} {n : Nat} : ∀ {S : List Nat}, S.Nodup → (∀ i ∈ S, i < n ∧ p i = false) → cnt (fun i => p i || S.contains i) n = cnt p n + S.length
  | [], _, _ => by
    rw [List.length_nil, Nat.add_zero]
    exact cnt_congr fun i _ => by simp
  | a :: S, hn, h => by
    have hn' := List.nodup_cons.1 hn
    have h1 := cnt_list (p := p) hn'.2 fun i hi => h i (List.mem_cons_of_mem _ hi)
    have ha := h a (List.mem_cons_self ..)
    have h2 := cnt_insert (p := fun i => p i || S.contains i) (q := fun i => p i || (a :: S).contains i) (a := a) (by
      rw [ha.2, Bool.false_or]
      exact Bool.eq_false_iff.2 fun hc => hn'.1 (by simpa using hc)) (fun i => by
      simp only [List.contains_cons]
      cases p i <;> cases S.contains i <;> simp) (n := n)
    rw [h2, h1, if_pos ha.1, List.length_cons]; omega
/-- A list that has no number twice, all in a set, is not longer than the set. -/
theorem list_cnt {p : Nat → Bool} {n : Nat} {S : List Nat} (hn : S.Nodup) (h : ∀ i ∈ S, i < n ∧ p i = true) : S.length ≤ cnt p n := by
  have h1 := cnt_list (p := fun _ => false) hn fun i hi => ⟨(h i hi).1, rfl⟩
  have h0 : cnt (fun _ => false) n = 0 := by
    have : ∀ n, cnt (fun _ => false) n = 0 := fun n => by
      induction n with
      | zero => rfl
      | succ n ih => simp [cnt, ih]
    exact this n
  rw [h0, Nat.zero_add] at h1
  rw [← h1]
  exact cnt_mono fun i _ hi => (h i (by simpa using hi)).2
section
variable {l : List Pc} {m : Nat} {S : Nat → List Nat} {D : Nat → Nat → Bool} {T : Nat}
def und (l : List Pc) (D : Nat → Bool) (i : Nat) : Nat := if D i then 0 else lev l i
def hgt (l : List Pc) (D : Nat → Bool) : Nat := maxTo (und l D) l.length
theorem hgt_ge {D : Nat → Bool} {i : Nat} (hi : i < l.length) (hd : D i = false) : lev l i ≤ hgt l D := by
  have := maxTo_ge (und l D) hi
  have e : und l D i = lev l i := by unfold und; rw [hd]; rfl
  rw [e] at this
  exact this
theorem hgt_at {D : Nat → Bool} (h : 0 < hgt l D) : ∃ i, i < l.length ∧ D i = false ∧ lev l i = hgt l D := by
  obtain ⟨i, h1, h2⟩ := maxTo_at (und l D) h
  refine ⟨i, h1, ?_⟩
  unfold hgt
  cases hd : D i
  · refine ⟨rfl, ?_⟩
    rw [← h2]; unfold und; rw [hd]; rfl
  · unfold und at h2
    rw [hd] at h2
    simp only [if_true] at h2
    unfold hgt at h
    have : maxTo (und l D) l.length = 0 := h2.symm
    omega
/-- The highest ones that are not made can be made. -/
theorem top_av (ho : okOrd l) {D : Nat → Bool} {i : Nat} (hi : i < l.length) (hd : D i = false) (hl : hgt l D ≤ lev l i) : av l D i = true := by
  refine av_iff.2 ⟨hi, hd, fun k hk he => ?_⟩
  cases hdk : D k
  · have h1 := hgt_ge (l := l) hk hdk
    have h2 := lev_into ho hk (by rw [he]; omega)
    rw [he, Int.toNat_natCast] at h2
    omega
  · rfl
def Full (l : List Pc) (m : Nat) (S : List Nat) (j : Nat) : Prop := S.length = m ∧ ∀ a ∈ S, j < lev l a
theorem Runs.grow (h : Runs l m S D T) {t : Nat} (ht : t < T) {i : Nat} (hd : D (t + 1) i = false) : D t i = false := by
  rw [h.step t ht i] at hd
  cases he : D t i
  · rfl
  · rw [he] at hd; cases hd
theorem Runs.all (h : Runs l m S D T) {t : Nat} (ht : t < T) {j : Nat} (hf : ¬ Full l m (S t) j) {b : Nat} (hb : av l (D t) b = true) (hj : j < lev l b) : b ∈ S t := by
  apply Decidable.byContradiction
  intro hn
  apply hf
  have hlen := h.len t ht
  have hb' := av_iff.1 hb
  have hlt : (S t).length < cnt (av l (D t)) l.length := by
    have := list_cnt (p := av l (D t)) (n := l.length) (S := b :: S t) (List.nodup_cons.2 ⟨hn, h.nd t ht⟩) fun i hi => by
      rcases List.mem_cons.1 hi with rfl | hi
      · exact ⟨hb'.1, hb⟩
      · exact ⟨(av_iff.1 (h.sub t ht i hi)).1, h.sub t ht i hi⟩
    rw [List.length_cons] at this
    omega
  exact ⟨by omega, fun a ha => by have := h.top t ht a ha b hb hn; omega⟩
theorem Runs.drop (ho : okOrd l) (h : Runs l m S D T) {t : Nat} (ht : t < T) {j : Nat} (hf : ¬ Full l m (S t) j) : hgt l (D (t + 1)) ≤ max (hgt l (D t) - 1) j := by
  by_cases h0 : hgt l (D (t + 1)) ≤ j
  · omega
  · obtain ⟨i, h1, h2, h3⟩ := hgt_at (l := l) (D := D (t + 1)) (by omega)
    have h4 := h.grow ht h2
    have h5 := hgt_ge (l := l) h1 h4
    by_cases h6 : lev l i = hgt l (D t)
    · have := h.all ht hf (top_av ho h1 h4 (by omega)) (by omega)
      rw [h.step t ht i] at h2
      have hc : (S t).contains i = true := by simpa using this
      rw [hc, Bool.or_true] at h2
      cases h2
    · omega
theorem Runs.stays (ho : okOrd l) (h : Runs l m S D T) {t : Nat} (ht : t + 1 < T) {j : Nat} (hf : Full l m (S (t + 1)) j) : Full l m (S t) j := by
  apply Classical.byContradiction
  intro hn
  have hlen := h.len t (by omega)
  have hcov : ∀ b ∈ S (t + 1), ∃ k, k ∈ (S t).filter (fun k => decide (j < lev l k)) ∧ (nth l k).into.toNat = b := by
    intro b hb
    have h1 := av_iff.1 (h.sub (t + 1) ht b hb)
    have h2 := h.grow (by omega) h1.2.1
    have h3 : ¬ av l (D t) b = true := fun hav => by
      have := h.all (by omega) hn hav (hf.2 b hb)
      have h4 := h1.2.1
      rw [h.step t (by omega) b] at h4
      have hc : (S t).contains b = true := by simpa using this
      rw [hc, Bool.or_true] at h4
      cases h4
    have h4 : ∃ k, k < l.length ∧ (nth l k).into = (b : Int) ∧ D t k = false := by
      apply Classical.byContradiction
      intro hc
      apply h3
      refine av_iff.2 ⟨h1.1, h2, fun k hk he => ?_⟩
      cases hd : D t k
      · exact absurd ⟨k, hk, he, hd⟩ hc
      · rfl
    obtain ⟨k, k1, k2, k3⟩ := h4
    have k4 := h1.2.2 k k1 k2
    rw [h.step t (by omega) k, k3, Bool.false_or] at k4
    have k5 : k ∈ S t := by simpa using k4
    have k6 := lev_into ho k1 (by rw [k2]; omega)
    rw [k2, Int.toNat_natCast] at k6
    have k7 := hf.2 b hb
    exact ⟨k, List.mem_filter.2 ⟨k5, by simp; omega⟩, by rw [k2]; simp⟩
  have hsub : (S (t + 1)).length ≤ ((S t).filter (fun k => decide (j < lev l k))).length := by
    have h1 : (S (t + 1)) ⊆ ((S t).filter (fun k => decide (j < lev l k))).map (fun k => (nth l k).into.toNat) := fun b hb => by
      obtain ⟨k, h1, h2⟩ := hcov b hb
      exact List.mem_map.2 ⟨k, h1, h2⟩
    have := nodupLe (h.nd (t + 1) ht) h1
    simpa using this
  have hle := List.length_filter_le (fun k => decide (j < lev l k)) (S t)
  have hm := hf.1
  have hall : ((S t).filter (fun k => decide (j < lev l k))).length = (S t).length := by omega
  apply hn
  refine ⟨by omega, fun a ha => ?_⟩
  have := List.length_filter_eq_length_iff.1 hall a ha
  simpa using this
/-- So many were made. -/
theorem Runs.made (h : Runs l m S D T) {j : Nat} : ∀ t, t ≤ T → (∀ u, u < t → Full l m (S u) j) → t * m ≤ cnt (fun i => D t i && decide (j < lev l i)) l.length
  | 0, _, _ => by simp
  | t + 1, ht, hf => by
    have h1 := h.made t (by omega) fun u hu => hf u (by omega)
    have hft := hf t (by omega)
    have h2 := cnt_list (p := fun i => D t i && decide (j < lev l i)) (n := l.length) (h.nd t (by omega)) fun i hi => by
      have := av_iff.1 (h.sub t (by omega) i hi)
      exact ⟨this.1, by rw [this.2.1]; rfl⟩
    have h3 : cnt (fun i => (D t i && decide (j < lev l i)) || (S t).contains i) l.length ≤ cnt (fun i => D (t + 1) i && decide (j < lev l i)) l.length := cnt_mono fun i hi hp => by
      simp only [h.step t (by omega) i, Bool.and_eq_true, Bool.or_eq_true, decide_eq_true_eq, List.contains_iff_mem] at hp ⊢
      rcases hp with ⟨h4, h5⟩ | h4
      · exact ⟨.inl h4, h5⟩
      · exact ⟨.inr h4, hft.2 i h4⟩
    rw [Nat.succ_mul]
    have := hft.1
    omega
theorem up_ge {a m k : Nat} (hm : 0 < m) (h : k * m + 1 ≤ a) : ((k : Int) + 1) ≤ ((a : Int) + m - 1) / m := by
  apply (Int.le_ediv_iff_mul_le (by omega)).2
  have : ((k : Int) * m) + 1 ≤ a := by exact_mod_cast h
  rw [Int.add_mul]
  omega
/-- The days are not more than some bound. -/
theorem Runs.bound (ho : okOrd l) (hm : 0 < m) (h : Runs l m S D T) (hT : 0 < T) : ∃ j, j < height l ∧ (T : Int) ≤ bnd l m j := by
  have hP : ∀ k, k < T → (∀ i, i ≤ k → i + 1 ≤ hgt l (D (T - 1 - i))) ∨ ∃ j, j < k ∧ (∀ i, i ≤ j → i + 1 ≤ hgt l (D (T - 1 - i))) ∧ hgt l (D (T - 1 - (j + 1))) ≤ j + 1 := by
    intro k
    induction k with
    | zero =>
      intro _
      refine .inl fun i hi => ?_
      obtain rfl : i = 0 := by omega
      have hne := h.ne (T - 1) (by omega)
      obtain ⟨a, ha⟩ := List.exists_mem_of_ne_nil _ hne
      have h1 := av_iff.1 (h.sub (T - 1) (by omega) a ha)
      have h2 := hgt_ge (l := l) h1.1 h1.2.1
      have h3 := lev_in ho h1.1
      rw [Nat.sub_zero]; omega
    | succ k ih =>
      intro hk
      rcases ih (by omega) with h1 | ⟨j, h1, h2, h3⟩
      · by_cases h2 : k + 1 + 1 ≤ hgt l (D (T - 1 - (k + 1)))
        · refine .inl fun i hi => ?_
          by_cases e : i = k + 1
          · subst e; exact h2
          · exact h1 i (by omega)
        · exact .inr ⟨k, by omega, h1, by omega⟩
      · exact .inr ⟨j, by omega, h2, h3⟩
  have hhe : ∀ t, hgt l (D t) ≤ height l := fun t => by
    by_cases h0 : hgt l (D t) = 0
    · omega
    · obtain ⟨i, h1, h2, h3⟩ := hgt_at (l := l) (D := D t) (by omega)
      rw [← h3]
      exact maxTo_ge (lev l) h1
  have habv : ∀ j t, j + 1 ≤ hgt l (D t) → cnt (fun i => D t i && decide (j < lev l i)) l.length + 1 ≤ above l j := fun j t hj => by
    obtain ⟨i, h1, h2, h3⟩ := hgt_at (l := l) (D := D t) (by omega)
    have h4 := cnt_insert (p := fun i => D t i && decide (j < lev l i)) (q := fun x => (D t x && decide (j < lev l x)) || x == i) (a := i) (by rw [h2]; rfl) (fun _ => rfl) (n := l.length)
    rw [if_pos h1] at h4
    rw [← h4]
    refine cnt_mono fun x hx hp => ?_
    simp only [Bool.or_eq_true, Bool.and_eq_true, decide_eq_true_eq, beq_iff_eq] at hp ⊢
    rcases hp with ⟨_, h5⟩ | rfl
    · omega
    · omega
  rcases hP (T - 1) (by omega) with h1 | ⟨j, h1, h2, h3⟩
  · have h2 := h1 (T - 1) (Nat.le_refl _)
    rw [Nat.sub_self] at h2
    have h4 := habv (T - 1) 0 (by omega)
    have h5 := hhe 0
    refine ⟨T - 1, by omega, ?_⟩
    have h6 := up_ge (a := above l (T - 1 : Nat)) (k := 0) hm (by omega)
    unfold bnd
    omega
  · have h4 := h2 j (Nat.le_refl _)
    have hfull : Full l m (S (T - 1 - (j + 1))) j := by
      apply Classical.byContradiction
      intro hf
      have h5 := h.drop ho (t := T - 1 - (j + 1)) (by omega) hf
      rw [show T - 1 - (j + 1) + 1 = T - 1 - j by omega] at h5
      omega
    have hfa : ∀ d u, u + d = T - 1 - (j + 1) → Full l m (S u) j := by
      intro d
      induction d with
      | zero => intro u hu; obtain rfl : u = T - 1 - (j + 1) := by omega
                exact hfull
      | succ d ih => intro u hu; exact h.stays ho (by omega) (ih (u + 1) (by omega))
    have h5 := h.made (j := j) (T - 1 - j) (by omega) fun u hu => hfa (T - 1 - (j + 1) - u) u (by omega)
    have h6 := habv j (T - 1 - j) h4
    have h7 := hhe (T - 1 - j)
    refine ⟨j, by omega, ?_⟩
    have h8 := up_ge (a := above l (j : Nat)) (k := T - 1 - j) hm (by omega)
    unfold bnd
    omega
end
end Go.Oct.Stk.Sh
