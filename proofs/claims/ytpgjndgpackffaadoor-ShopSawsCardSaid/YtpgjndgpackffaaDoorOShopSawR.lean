/- The specification's Saw, plain: the best one of the sets. -/
import Derived.Test.YtpgjndgpackffaaDoorOShopSawS
set_option maxRecDepth 100000
set_option maxHeartbeats 4000000
set_option linter.unusedVariables false
set_option linter.unusedSimpArgs false
namespace Go.Oct.Shop
open Go.Oct
theorem tot_app (cut : Int) (L : List Int) : ∀ (sn : Bool) (I : List Int) (x : Int), tot cut L sn (I ++ [x]) = tot cut L sn I + nd cut (sn || !I.isEmpty) (nth L x.toNat)
  | sn, [], x => by simp [tot]
  | sn, y :: I, x => by
    have h := tot_app cut L true I x
    simp only [List.cons_append, tot]
    rw [h]
    simp
    omega
theorem tot_take {cut : Int} {L I : List Int} {i : Nat} (h : i < I.length) : tot cut L false (I.take (i + 1)) = tot cut L false (I.take i) + nd cut (decide (0 < i)) (nth L (nth I i).toNat) := by
  rw [take_succ_nth h, tot_app]
  congr 2
  by_cases e : i = 0
  · subst e; simp
  · have : (I.take i).isEmpty = false := by
      cases hI : I.take i with
      | nil =>
        have := congrArg List.length hI
        rw [List.length_take, List.length_nil] at this
        omega
      | cons => rfl
    rw [this]; simp; omega
theorem tot_bd {cut : Int} {L : List Int} (hc : 0 ≤ cut ∧ cut ≤ 1000) (hx : ∀ x ∈ L, 1 ≤ x ∧ x ≤ 10000) {I : List Int} (hI : ∀ q, q < I.length → 0 ≤ nth I q ∧ nth I q < L.length) : ∀ i, i ≤ I.length → 0 ≤ tot cut L false (I.take i) ∧ tot cut L false (I.take i) ≤ 11000 * (i : Int)
  | 0, _ => by simp [tot]
  | i + 1, h => by
    have h1 := tot_bd hc hx hI i (by omega)
    have h2 := hI i (by omega)
    have h3 := hx _ (nth_mem (xs := L) (i := (nth I i).toNat) (by omega))
    rw [tot_take (by omega)]
    unfold nd
    split <;> omega
/-- The best one of the sets below one. -/
def BestTo (cut bar : Int) (L : List Int) (s : Nat) (b : List Int) (m : Int) : Prop :=
  asc L.length 0 b ∧ tot cut L false b = m ∧ m ≤ bar ∧ 0 ≤ m ∧ ∀ t, t < s → tot cut L false (memG t L.length 0) ≤ bar → tot cut L false (memG t L.length 0) ≤ m ∧ (tot cut L false (memG t L.length 0) = m → ¬ lexB (memG t L.length 0) b)
theorem BestTo.start {cut bar : Int} {L : List Int} (h : 0 ≤ bar) : BestTo cut bar L 0 [] 0 := ⟨trivial, rfl, h, Int.le_refl _, fun t h => by omega⟩
theorem BestTo.take {cut bar : Int} {L : List Int} {s : Nat} {b : List Int} {m : Int} (h : BestTo cut bar L s b m) (hb : tot cut L false (memG s L.length 0) ≤ bar)
    (hm : m < tot cut L false (memG s L.length 0) ∨ (tot cut L false (memG s L.length 0) = m ∧ lexB (memG s L.length 0) b)) : BestTo cut bar L (s + 1) (memG s L.length 0) (tot cut L false (memG s L.length 0)) := by
  obtain ⟨h1, h2, h3, h4, h5⟩ := h
  have ha := memG_asc L.length s 0
  rw [Nat.zero_add] at ha
  refine ⟨ha, rfl, hb, by rcases hm with h | h <;> omega, fun t ht hf => ?_⟩
  by_cases e : t = s
  · subst e
    exact ⟨Int.le_refl _, fun _ => lexB_irr _⟩
  · have h6 := h5 t (by omega) hf
    refine ⟨by rcases hm with h | h <;> omega, fun he hl => ?_⟩
    rcases hm with h | ⟨h, h'⟩
    · omega
    · exact h6.2 (by omega) (lexB_tr hl h')
theorem BestTo.skip {cut bar : Int} {L : List Int} {s : Nat} {b : List Int} {m : Int} (h : BestTo cut bar L s b m)
    (hm : tot cut L false (memG s L.length 0) ≤ bar → ¬ (m < tot cut L false (memG s L.length 0) ∨ (tot cut L false (memG s L.length 0) = m ∧ lexB (memG s L.length 0) b))) : BestTo cut bar L (s + 1) b m := by
  obtain ⟨h1, h2, h3, h4, h5⟩ := h
  refine ⟨h1, h2, h3, h4, fun t ht hf => ?_⟩
  by_cases e : t = s
  · subst e
    have := hm hf
    exact ⟨by omega, fun h6 h7 => this (.inr ⟨h6, h7⟩)⟩
  · exact h5 t (by omega) hf
theorem BestTo.done {cut bar : Int} {L : List Int} (hc : 0 ≤ cut) (hx : ∀ x ∈ L, 1 ≤ x) (hb : 0 ≤ bar) {b : List Int} {m : Int} (h : BestTo cut bar L (2 ^ L.length) b m) : b = grd cut L 0 bar false ∧ m = best cut L bar false := by
  obtain ⟨h1, h2, h3, h4, h5⟩ := h
  obtain ⟨g1, g2⟩ := grd_ok hc hx L.length 0 (by omega) bar false
  have g3 := grd_first hc hx L.length 0 (by omega) b bar false h1 (by omega)
  have g4 := tot_le hc hx L.length 0 (by omega) b bar false h1 (by omega)
  have g5 := (best_bd hc (xs := L) (bar := bar) (sn := false) hx).2 hb
  rw [List.drop_zero] at g1 g2 g3 g4
  obtain ⟨s, s1, s2⟩ := memG_all L.length 0 (grd cut L 0 bar false) (by rw [Nat.zero_add]; exact g1)
  have h6 := h5 s s1
  rw [s2, g2] at h6
  have h7 := h6 g5
  have e : m = best cut L bar false := by omega
  exact ⟨lexB_tot (g3 (by omega)) (h7.2 e.symm), e⟩
end Go.Oct.Shop
