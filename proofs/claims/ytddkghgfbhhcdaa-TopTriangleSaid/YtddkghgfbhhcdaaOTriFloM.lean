/- Nets, plain: the proofs that are told hold. -/
import Derived.Test.YtddkghgfbhhcdaaOTriFloK
set_option maxRecDepth 100000
set_option maxHeartbeats 2000000
set_option linter.unusedVariables false
set_option linter.unusedSimpArgs false
namespace Go.Oct.Tri
open Go.Oct
/-- Rising numbers from 0 on, below one. -/
def rise (l : List Int) (n : Int) : Prop := ∀ i, i < l.length → (if i = 0 then -1 else nth l (i - 1)) < nth l i ∧ nth l i < n
instance (l : List Int) (n : Int) : Decidable (rise l n) := by unfold rise; infer_instance
/-- Which side an angle is on. -/
def sideP (P Q : List Int) (a : An) : Int := if P.contains a.t = true ∧ Q.contains a.s = false then 1 else if Q.contains a.s = true ∧ P.contains a.t = false then -1 else 0
def cLo (A : List An) (P Q : List Int) : Int := A.foldr (fun a r => (if sideP P Q a = 1 then a.lo else if sideP P Q a = -1 then -a.hi else 0) + r) 0
def cHi (A : List An) (P Q : List Int) : Int := A.foldr (fun a r => (if sideP P Q a = 1 then a.hi else if sideP P Q a = -1 then -a.lo else 0) + r) 0
def mustP (P Q : List Int) : Int := 648000 * P.length - 1296000 * Q.length
/-- A valid proof, and one that holds. -/
def okPf (T : Int) (C : List Bool) (P Q : List Int) : Prop := rise P T ∧ rise Q C.length ∧ ∀ i, i < Q.length → nth C (nth Q i).toNat = true
instance (T : Int) (C : List Bool) (P Q : List Int) : Decidable (okPf T C P Q) := by unfold okPf; infer_instance
def hold (A : List An) (P Q : List Int) (small : Bool) : Prop := if small = true then cHi A P Q < mustP P Q else mustP P Q < cLo A P Q
instance (A : List An) (P Q : List Int) (small : Bool) : Decidable (hold A P Q small) := by unfold hold; infer_instance
/-- Angles that close. -/
def isCl (N : Int) (C : List Bool) (A : List An) (h : List Int) : Prop := inE (edges C A) h ∧ ∀ p, p < 16 → sAt (edges C A) h p = Bt0 N C p
theorem sel_mem {f : Nat → Bool} {n : Nat} {x : Int} : x ∈ sel f n ↔ ∃ k : Nat, k < n ∧ f k = true ∧ x = k := by
  unfold sel
  rw [List.mem_map]
  constructor
  · rintro ⟨k, hk, rfl⟩
    rw [List.mem_filter, List.mem_range] at hk
    exact ⟨k, hk.1, hk.2, rfl⟩
  · rintro ⟨k, h1, h2, rfl⟩
    exact ⟨k, by rw [List.mem_filter, List.mem_range]; exact ⟨h1, h2⟩, rfl⟩
theorem sel_has {f : Nat → Bool} {n : Nat} {x : Int} (h0 : 0 ≤ x) (h1 : x < n) : (sel f n).contains x = f x.toNat := by
  rw [Bool.eq_iff_iff, List.contains_iff_mem, sel_mem]
  constructor
  · rintro ⟨k, a, b, rfl⟩; simpa using b
  · intro h; exact ⟨x.toNat, by omega, h, by omega⟩
theorem sel_rise (f : Nat → Bool) (n : Nat) : rise (sel f n) n := by
  induction n with
  | zero => intro i hi; rw [sel_zero] at hi; simp at hi
  | succ n ih =>
    rw [sel_succ]
    intro i hi
    by_cases hf : f n = true
    · rw [if_pos hf] at hi ⊢
      by_cases e : i < (sel f n).length
      · have := ih i e
        rw [nth_append_left e]
        by_cases e0 : i = 0
        · rw [if_pos e0] at this ⊢; omega
        · rw [if_neg e0] at this ⊢; rw [nth_append_left (by omega)]; omega
      · have e2 : i = (sel f n).length := by simp at hi; omega
        have e3 : nth (sel f n ++ [(n : Int)]) i = n := by
          rw [nth_append_right (by omega) (by simpa using hi), e2, Nat.sub_self]; rfl
        rw [e3]
        refine ⟨?_, by omega⟩
        split
        · omega
        · rw [nth_append_left (by omega)]
          exact (ih _ (by omega)).2
    · rw [if_neg hf] at hi ⊢
      rw [List.append_nil] at hi ⊢
      have := ih i hi
      omega
theorem sel_count (f : Nat → Bool) (n : Nat) : ((sel f n).length : Int) = sumN (fun k => bif f k then 1 else 0) n := by
  induction n with
  | zero => rfl
  | succ n ih =>
    rw [sel_succ, List.length_append]
    simp only [sumN]
    rw [← ih]
    cases h : f n <;> simp
theorem sumN_mul (f : Nat → Int) (c : Int) : ∀ n, sumN (fun k => f k * c) n = sumN f n * c
  | 0 => by simp [sumN]
  | n + 1 => by simp only [sumN, sumN_mul f c n, Int.add_mul]
theorem sumN_ext (f : Nat → Int) {n m : Nat} (h : n ≤ m) (hz : ∀ k, n ≤ k → k < m → f k = 0) : sumN f m = sumN f n := by
  induction m with
  | zero => have : n = 0 := by omega
            subst this; rfl
  | succ m ih =>
    by_cases e : n = m + 1
    · subst e; rfl
    · simp only [sumN]
      rw [ih (by omega) fun k h1 h2 => hz k h1 (by omega), hz m (by omega) (by omega)]; omega
theorem sAt_none : ∀ (E : List Ed) (h : List Int) (p : Nat), (∀ e ∈ E, ¬ e.at p) → sAt E h p = 0
  | [], _, _, _ => by cases ‹List Int› <;> rfl
  | e :: E, [], _, _ => rfl
  | e :: E, x :: h, p, hn => by
    simp only [sAt]
    rw [if_neg (hn e (List.mem_cons_self ..)), sAt_none E h p fun e he => hn e (List.mem_cons_of_mem _ he)]; rfl
section
variable {N : Nat} {C : List Bool} {A : List An}
theorem at_none (hok : okNet N C A) (h : List Int) {p : Nat} (hp : p < 16) (hb : Bt0 N C p = 0) : sAt (edges C A) h p = 0 := by
  refine sAt_none _ _ _ fun e he hat => ?_
  obtain ⟨i, hi, rfl⟩ := mem_nth.1 he
  rw [edges_len] at hi
  rw [edges_nth C hi] at hat
  obtain ⟨a1, a2, a3⟩ := hok.2.2.2.1 i hi
  have hC := hok.2.1
  have hat' : (nth A i).t.toNat = p ∨ plc C (nth A i).s = p := hat
  unfold Bt0 at hb
  rcases hat' with h1 | h1
  · rw [if_pos (by omega)] at hb; omega
  · unfold plc at h1
    by_cases hc : nth C (nth A i).s.toNat = true
    · rw [if_pos hc] at h1
      have hN := hok.1
      rw [if_neg (by omega), if_pos ⟨by omega, by omega, by rw [← h1, Nat.add_sub_cancel_left]; exact hc⟩] at hb; omega
    · rw [if_neg hc] at h1; omega
/-- A set of places and the proof that tells it. -/
structure Tells (N : Nat) (C : List Bool) (R : Nat → Bool) (P Q : List Int) : Prop where
  t : ∀ x : Int, 0 ≤ x → x < N → P.contains x = R x.toNat
  s : ∀ x : Int, 0 ≤ x → x < C.length → Q.contains x = (nth C x.toNat && R (8 + x.toNat))
  o : R 16 = false
theorem tells_side (hok : okNet N C A) {R : Nat → Bool} {P Q : List Int} (ht : Tells N C R P Q) {i : Nat} (hi : i < A.length) : cutE R (ed C (nth A i)) = sideP P Q (nth A i) := by
  obtain ⟨a1, a2, a3⟩ := hok.2.2.2.1 i hi
  have e1 := ht.t (nth A i).t a1.1 a1.2
  have e2 := ht.s (nth A i).s a2.1 (by omega)
  have e3 : R (plc C (nth A i).s) = Q.contains (nth A i).s := by
    rw [e2]
    unfold plc
    cases hc : nth C (nth A i).s.toNat <;> simp [ht.o]
  unfold cutE sideP ind
  show (bif R (nth A i).t.toNat then 1 else 0) - (bif R (plc C (nth A i).s) then 1 else 0) = _
  rw [e3, ← e1]
  cases P.contains (nth A i).t <;> cases Q.contains (nth A i).s <;> simp
theorem tells_lo (hok : okNet N C A) {R : Nat → Bool} {P Q : List Int} (ht : Tells N C R P Q) : sLow (cutE R) (edges C A) = cLo A P Q := by
  have key : ∀ (l : List An), (∀ a ∈ l, cutE R (ed C a) = sideP P Q a) → sLow (cutE R) (l.map (ed C)) = cLo l P Q := by
    intro l
    induction l with
    | nil => intro _; rfl
    | cons a l ih =>
      intro h
      have h1 := h a (List.mem_cons_self ..)
      have h2 := ih fun a ha => h a (List.mem_cons_of_mem _ ha)
      simp only [List.map_cons, sLow, cLo, List.foldr_cons] at h2 ⊢
      rw [h2, h1]
      unfold sideP
      show (if _ then _ * a.lo else _ * a.hi) + _ = _
      split <;> (try split) <;> simp <;> omega
  refine key A fun a ha => ?_
  obtain ⟨i, hi, rfl⟩ := mem_nth.1 ha
  exact tells_side hok ht hi
theorem tells_hi (hok : okNet N C A) {R : Nat → Bool} {P Q : List Int} (ht : Tells N C R P Q) : sHigh (cutE R) (edges C A) = cHi A P Q := by
  have key : ∀ (l : List An), (∀ a ∈ l, cutE R (ed C a) = sideP P Q a) → sHigh (cutE R) (l.map (ed C)) = cHi l P Q := by
    intro l
    induction l with
    | nil => intro _; rfl
    | cons a l ih =>
      intro h
      have h1 := h a (List.mem_cons_self ..)
      have h2 := ih fun a ha => h a (List.mem_cons_of_mem _ ha)
      simp only [List.map_cons, sHigh, cHi, List.foldr_cons] at h2 ⊢
      rw [h2, h1]
      unfold sideP
      show (if _ then _ * a.hi else _ * a.lo) + _ = _
      split <;> (try split) <;> simp <;> omega
  refine key A fun a ha => ?_
  obtain ⟨i, hi, rfl⟩ := mem_nth.1 ha
  exact tells_side hok ht hi
end
end Go.Oct.Tri
