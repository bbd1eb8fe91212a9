/- Nets, plain: either angles close, or a proof holds; never both. -/
import Derived.Test.YtddkghgfbhhcdaaOTriFloM
set_option maxRecDepth 100000
set_option maxHeartbeats 2000000
set_option linter.unusedVariables false
set_option linter.unusedSimpArgs false
namespace Go.Oct.Tri
open Go.Oct
theorem sel_congr {f g : Nat → Bool} {n : Nat} (h : ∀ k, k < n → f k = g k) : sel f n = sel g n := by
  unfold sel
  congr 1
  exact List.filter_congr fun k hk => h k (List.mem_range.1 hk)
theorem rise_lt {l : List Int} {n : Int} (h : rise l n) : ∀ j, j < l.length → ∀ i, i < j → nth l i < nth l j
  | 0, _, i, hi => by omega
  | j + 1, hj, i, hi => by
    have h1 := (h (j + 1) hj).1
    rw [if_neg (by omega), Nat.add_sub_cancel] at h1
    by_cases e : i = j
    · subst e; exact h1
    · have := rise_lt h j (by omega) i (by omega); omega
theorem rise_ge {l : List Int} {n : Int} (h : rise l n) : ∀ i, i < l.length → 0 ≤ nth l i
  | 0, hi => by have := (h 0 hi).1; rw [if_pos rfl] at this; omega
  | i + 1, hi => by
    have h1 := (h (i + 1) hi).1
    rw [if_neg (by omega), Nat.add_sub_cancel] at h1
    have := rise_ge h i (by omega); omega
theorem rise_sel : ∀ (n : Nat) (l : List Int), rise l n → l = sel (fun k => l.contains (k : Int)) n
  | 0, l, h => by
    cases l with
    | nil => rfl
    | cons x l => have := h 0 (by simp); simp at this; omega
  | n + 1, l, h => by
    rw [sel_succ]
    by_cases hm : l.contains (n : Int) = true
    · rw [if_pos hm]
      obtain ⟨i, hi, he⟩ := mem_nth.1 (List.contains_iff_mem.1 hm)
      have hlast : i + 1 = l.length := by
        by_cases e : i + 1 < l.length
        · have h1 := rise_lt h (i + 1) e i (by omega)
          have h2 := (h (i + 1) e).2
          omega
        · omega
      have hsplit : l = l.take i ++ [(n : Int)] := by
        have := take_succ_nth hi
        rw [hlast, List.take_length, he] at this
        exact this
      have hr : rise (l.take i) n := fun q hq => by
        have hq' : q < i := by simp at hq; omega
        have h1 := h q (by omega)
        rw [nth_take hq' (by omega)]
        have h3 := rise_lt h i hi q hq'
        refine ⟨?_, by omega⟩
        by_cases e : q = 0
        · rw [if_pos e] at h1 ⊢; exact h1.1
        · rw [if_neg e] at h1 ⊢; rw [nth_take (by omega) (by omega)]; exact h1.1
      have ih := rise_sel n (l.take i) hr
      have hc : ∀ k, k < n → (l.take i).contains (k : Int) = l.contains (k : Int) := fun k hk => by
        conv => rhs; rw [hsplit]
        rw [Bool.eq_iff_iff]
        simp only [List.contains_iff_mem, List.mem_append, List.mem_singleton]
        constructor
        · exact .inl
        · rintro (h | h)
          · exact h
          · omega
      rw [sel_congr hc] at ih
      conv => lhs; rw [hsplit, ih]
    · rw [if_neg hm, List.append_nil]
      refine rise_sel n l fun i hi => ?_
      have h1 := h i hi
      have : nth l i ≠ n := fun e => hm (List.contains_iff_mem.2 (mem_nth.2 ⟨i, hi, e⟩))
      omega
section
variable {N : Nat} {C : List Bool} {A : List An}
/-- The places of a proof. -/
def rOf (P Q : List Int) (p : Nat) : Bool := if p < 8 then P.contains (p : Int) else decide (p < 16) && Q.contains ((p : Int) - 8)
theorem okPf_tells (hok : okNet N C A) {P Q : List Int} (hp : okPf N C P Q) : Tells N C (rOf P Q) P Q := by
  have hN := hok.1
  have hC := hok.2.1
  refine ⟨fun x h0 h1 => ?_, fun x h0 h1 => ?_, rfl⟩
  · unfold rOf
    rw [if_pos (by omega)]
    congr 1; omega
  · unfold rOf
    rw [if_neg (by omega)]
    have e1 : decide (8 + x.toNat < 16) = true := decide_eq_true (by omega)
    have e2 : ((8 + x.toNat : Nat) : Int) - 8 = x := by omega
    rw [e1, e2, Bool.true_and]
    cases hq : Q.contains x with
    | false => simp
    | true =>
      obtain ⟨i, hi, rfl⟩ := mem_nth.1 (List.contains_iff_mem.1 hq)
      rw [hp.2.2 i hi]; rfl
/-- What a proof's places are to have, in all. -/
theorem tells_must (hok : okNet N C A) {R : Nat → Bool} {P Q : List Int} (hp : okPf N C P Q) (ht : Tells N C R P Q) :
    sumN (fun t => ind R t * Bt0 N C t) 8 - sumN (fun s => ind R (8 + s) * Bt0 N C (8 + s)) 9 = mustP P Q := by
  have hN := hok.1
  have hC := hok.2.1
  have e1 : (P.length : Int) = sumN (fun k => bif R k then 1 else 0) N := by
    rw [rise_sel N P hp.1, sel_count]
    exact sumN_congr N fun k hk => by rw [ht.t k (by omega) (by omega)]; simp
  have e2 : (Q.length : Int) = sumN (fun k => bif (nth C k && R (8 + k)) then 1 else 0) C.length := by
    rw [rise_sel C.length Q hp.2.1, sel_count]
    exact sumN_congr C.length fun k hk => by rw [ht.s k (by omega) (by omega)]; simp
  have f1 : sumN (fun t => ind R t * Bt0 N C t) 8 = 648000 * (P.length : Int) := by
    rw [sumN_ext _ (show N ≤ 8 by omega) fun k h1 h2 => by
      have : Bt0 N C k = 0 := by unfold Bt0; rw [if_neg (by omega), if_neg (by omega)]
      rw [this]; simp]
    rw [e1, Int.mul_comm, ← sumN_mul]
    refine sumN_congr N fun k hk => ?_
    unfold Bt0 ind; rw [if_pos (by omega)]
  have f2 : sumN (fun s => ind R (8 + s) * Bt0 N C (8 + s)) 9 = 1296000 * (Q.length : Int) := by
    rw [sumN_ext _ (show C.length ≤ 9 by omega) fun k h1 h2 => by
      have : Bt0 N C (8 + k) = 0 := by unfold Bt0; rw [if_neg (by omega), if_neg (by omega)]
      rw [this]; simp]
    rw [e2, Int.mul_comm, ← sumN_mul]
    refine sumN_congr C.length fun k hk => ?_
    unfold Bt0 ind
    rw [if_neg (by omega)]
    cases hc : nth C k with
    | true => rw [if_pos ⟨by omega, by omega, by rw [Nat.add_sub_cancel_left]; exact hc⟩]; simp
    | false => rw [if_neg (by rw [Nat.add_sub_cancel_left, hc]; simp)]; simp
  rw [f1, f2]; rfl
/-- Never both. -/
theorem never_both (hok : okNet N C A) {h : List Int} (hc : isCl N C A h) {P Q : List Int} (hp : okPf N C P Q) (small : Bool) : ¬ hold A P Q small := by
  have ht := okPf_tells hok hp
  have hm := tells_must hok hp ht
  have hcut := cut_sum (rOf P Q) (edges C A) h (nth_lt_mem (okE_edges hok)) hc.1.1
  obtain ⟨b1, b2⟩ := sOf_ge (cutE (rOf P Q)) (edges C A) h hc.1
  have s1 : sumN (fun t => ind (rOf P Q) t * sAt (edges C A) h t) 8 = sumN (fun t => ind (rOf P Q) t * Bt0 N C t) 8 := sumN_congr 8 fun k hk => by rw [hc.2 k (by omega)]
  have s2 : sumN (fun s => ind (rOf P Q) (8 + s) * sAt (edges C A) h (8 + s)) 9 = sumN (fun s => ind (rOf P Q) (8 + s) * Bt0 N C (8 + s)) 9 := sumN_congr 9 fun k hk => by
    by_cases e : k = 8
    · subst e; have : ind (rOf P Q) (8 + 8) = 0 := rfl
      rw [this]; simp
    · rw [hc.2 (8 + k) (by omega)]
  rw [s1, s2, hm] at hcut
  rw [tells_lo hok ht] at b1
  rw [tells_hi hok ht] at b2
  unfold hold
  cases small <;> simp <;> omega
/-- What triangles that lack seconds reach, or don't reach. -/
theorem small_holds (hok : okNet N C A) {h L : List Int} {R : Nat → Bool} {P Q : List Int} (hin : inE (edges C A) h) (hsum : ∀ p, p < 16 → nth L p + sAt (edges C A) h p = Bt0 N C p) (hc : Clo (edges C A) h (-1) R) (hp : okPf N C P Q) (ht : Tells N C R P Q)
    (hL : ∀ p, p < 16 → 0 ≤ nth L p) (hs : ∀ p, 8 ≤ p → p < 16 → nth L p = 0) {t : Nat} (htN : t < 8) (ht0 : 0 < nth L t) (htR : R t = true) : hold A P Q true := by
  have h1 := small_cut (okE_edges hok) hin hc
  rw [tells_hi hok ht] at h1
  have hm := tells_must hok hp ht
  have s1 : sumN (fun t => ind R t * sAt (edges C A) h t) 8 = sumN (fun t => ind R t * Bt0 N C t) 8 - sumN (fun t => ind R t * nth L t) 8 := by
    rw [← sumN_sub]
    exact sumN_congr 8 fun k hk => by
      have := hsum k (by omega)
      rw [← Int.mul_sub]; congr 1; omega
  have s2 : sumN (fun s => ind R (8 + s) * sAt (edges C A) h (8 + s)) 9 = sumN (fun s => ind R (8 + s) * Bt0 N C (8 + s)) 9 := sumN_congr 9 fun k hk => by
    by_cases e : k = 8
    · subst e
      have : ind R (8 + 8) = 0 := by unfold ind; rw [show 8 + 8 = 16 from rfl, ht.o]; rfl
      rw [this]; simp
    · have := hsum (8 + k) (by omega)
      rw [hs (8 + k) (by omega) (by omega)] at this
      congr 1; omega
  have s3 : 0 < sumN (fun t => ind R t * nth L t) 8 := by
    refine sumN_pos (k := t) 8 (fun k hk => ?_) htN ?_
    · have := hL k (by omega)
      unfold ind; cases R k <;> simp <;> omega
    · unfold ind; rw [htR]; simpa using ht0
  unfold hold
  rw [if_pos rfl]
  omega
theorem big_holds (hok : okNet N C A) {h L : List Int} {R : Nat → Bool} {P Q : List Int} (hin : inE (edges C A) h) (hsum : ∀ p, p < 16 → nth L p + sAt (edges C A) h p = Bt0 N C p) (hc : Clo (edges C A) h (-1) R) (ho : ∀ i, i < (edges C A).length → (nth (edges C A) i).v = 16 → nth h i = (nth (edges C A) i).lo)
    (hp : okPf N C P Q) (ht : Tells N C (notR R) P Q) (hL : ∀ p, p < 16 → 0 ≤ nth L p) (hs : ∀ p, p < 8 → notR R p = true → nth L p = 0) {s : Nat} (hs8 : 8 ≤ s) (hs16 : s < 16) (hs0 : 0 < nth L s) (hsR : notR R s = true) : hold A P Q false := by
  have h1 := big_cut (okE_edges hok) hin hc ho
  rw [tells_lo hok ht] at h1
  have hm := tells_must hok hp ht
  have s1 : sumN (fun t => ind (notR R) t * sAt (edges C A) h t) 8 = sumN (fun t => ind (notR R) t * Bt0 N C t) 8 := sumN_congr 8 fun k hk => by
    have := hsum k (by omega)
    cases hk2 : notR R k with
    | false => unfold ind; rw [hk2]; simp
    | true => rw [hs k hk hk2] at this; congr 1; omega
  have s2 : sumN (fun s => ind (notR R) (8 + s) * sAt (edges C A) h (8 + s)) 9 = sumN (fun s => ind (notR R) (8 + s) * Bt0 N C (8 + s)) 9 - sumN (fun s => ind (notR R) (8 + s) * nth L (8 + s)) 9 := by
    rw [← sumN_sub]
    exact sumN_congr 9 fun k hk => by
      by_cases e : k = 8
      · subst e
        have : ind (notR R) (8 + 8) = 0 := by unfold ind; rw [show 8 + 8 = 16 from rfl, ht.o]; rfl
        rw [this]; simp
      · have := hsum (8 + k) (by omega)
        rw [← Int.mul_sub]; congr 1; omega
  have s3 : 0 < sumN (fun s => ind (notR R) (8 + s) * nth L (8 + s)) 9 := by
    refine sumN_pos (k := s - 8) 9 (fun k hk => ?_) (by omega) ?_
    · by_cases e : k = 8
      · subst e
        have : ind (notR R) (8 + 8) = 0 := by unfold ind; rw [show 8 + 8 = 16 from rfl, ht.o]; rfl
        rw [this]; simp
      · have := hL (8 + k) (by omega)
        unfold ind; cases notR R (8 + k) <;> simp <;> omega
    · rw [show 8 + (s - 8) = s by omega]
      unfold ind; rw [hsR]; simpa using hs0
  unfold hold
  rw [if_neg (by simp)]
  omega
/-- What stands at the open place stands as low as it can, if the sum there is the least. -/
theorem open_low : ∀ (E : List Ed) (h g : List Int) (p : Nat), h.length = E.length → g.length = E.length → (∀ i, i < E.length → nth g i ≤ nth h i) → sAt E h p = sAt E g p → ∀ i, i < E.length → (nth E i).at p → nth h i = nth g i
  | [], _, _, _, _, _, _, _, i, hi, _ => by simp at hi
  | e :: E, [], _, _, h, _, _, _, _, _, _ => by simp at h
  | e :: E, _ :: _, [], _, _, h, _, _, _, _, _ => by simp at h
  | e :: E, x :: h, y :: g, p, h1, h2, h3, h4, i, hi, hat => by
    have le : ∀ (E : List Ed) (h g : List Int), h.length = E.length → g.length = E.length → (∀ i, i < E.length → nth g i ≤ nth h i) → sAt E g p ≤ sAt E h p := fun E => by
      induction E with
      | nil => intro h g _ _ _; simp [sAt]
      | cons e E ih => intro h g h1 h2 h3; cases h with
        | nil => simp at h1
        | cons x h => cases g with
          | nil => simp at h2
          | cons y g =>
            have a := ih h g (by simpa using h1) (by simpa using h2) fun i hi => by simpa using h3 (i + 1) (by simpa using hi)
            have b := h3 0 (by simp)
            simp only [nth_zero] at b
            simp only [sAt]; split <;> omega
    have hl1 : h.length = E.length := by simpa using h1
    have hl2 : g.length = E.length := by simpa using h2
    have h3' : ∀ i, i < E.length → nth g i ≤ nth h i := fun i hi => by simpa using h3 (i + 1) (by simpa using hi)
    have a := le E h g hl1 hl2 h3'
    have b := h3 0 (by simp)
    simp only [nth_zero] at b
    simp only [sAt] at h4
    cases i with
    | zero =>
      simp only [nth_zero] at hat ⊢
      rw [if_pos hat, if_pos hat] at h4
      omega
    | succ i =>
      simp only [nth_succ] at hat ⊢
      refine open_low E h g p hl1 hl2 h3' ?_ i (by simpa using hi) hat
      split at h4 <;> omega
theorem reached_sub {E : List Ed} {h : List Int} {b : Int} {S R : List Bool} {F : List Int} (hr : Reached E h b S R F) {R0 : Nat → Bool} (hs : ∀ q, q < 17 → nth S q = true → R0 q = true) (hc : Clo E h b R0) : ∀ q, q < 17 → nth R q = true → R0 q = true := by
  have key : ∀ (k : Nat) q, q < 17 → nth R q = true → nth F q ≤ k → R0 q = true := by
    intro k
    induction k with
    | zero =>
      intro q hq hR hf
      rcases hr.path q hq hR with h1 | ⟨p, i, w, hp, hw, hs', hf2⟩
      · exact hs q hq h1
      · have := hr.far p hp hw; omega
    | succ k ih =>
      intro q hq hR hf
      rcases hr.path q hq hR with h1 | ⟨p, i, w, hp, hw, hs', hf2⟩
      · exact hs q hq h1
      · exact hc p q i w (ih p hp hw (by omega)) hs'
  intro q hq hR
  have := hr.far q hq hR
  exact key 17 q hq hR (by omega)
end
end Go.Oct.Tri
