/- Sawing, plain: best is the most, and the greedy list the first that uses so much. -/
import Derived.Test.YtpgjndgpackffaaDoorOShopSawW
import Derived.Test.YtpgjndgpackffaaDoorOShopSets
set_option maxRecDepth 100000
set_option maxHeartbeats 2000000
set_option linter.unusedVariables false
set_option linter.unusedSimpArgs false
namespace Go.Oct.Shop
open Go.Oct
/-- What a list of lengths takes. -/
def tot (cut : Int) (L : List Int) : Bool → List Int → Int
  | _, [] => 0
  | sn, x :: I => nd cut sn (nth L x.toNat) + tot cut L true I
section
variable {cut : Int} {L : List Int} (hc : 0 ≤ cut) (hx : ∀ x ∈ L, 1 ≤ x)
include hc hx
theorem nd_pos {i : Nat} (h : i < L.length) (sn : Bool) : 1 ≤ nd cut sn (nth L i) := by
  have := hx _ (nth_mem h)
  unfold nd; split <;> omega
theorem tot_nn : ∀ {i : Nat} {I : List Int} {sn : Bool}, asc L.length i I → 0 ≤ tot cut L sn I
  | _, [], _, _ => Int.le_refl _
  | i, x :: I, sn, h => by
    have h1 := tot_nn (i := x.toNat + 1) (I := I) (sn := true) h.2
    have h2 := nd_pos hc hx (i := x.toNat) (by have := h.1; omega) sn
    simp only [tot]; omega
theorem best_nn (i : Nat) (bar : Int) (sn : Bool) : 0 ≤ best cut (L.drop i) bar sn := (best_bd hc (xs := L.drop i) (bar := bar) (sn := sn) fun x h => hx x (List.mem_of_mem_drop h)).1
theorem tot_le : ∀ (d i : Nat), i + d = L.length → ∀ (I : List Int) (bar : Int) (sn : Bool), asc L.length i I → tot cut L sn I ≤ bar → tot cut L sn I ≤ best cut (L.drop i) bar sn
  | 0, i, hd, [], bar, sn, _, _ => best_nn hc hx _ _ _
  | 0, i, hd, x :: I, bar, sn, h, _ => by have := h.1; omega
  | d + 1, i, hd, [], bar, sn, _, _ => best_nn hc hx _ _ _
  | d + 1, i, hd, x :: I, bar, sn, h, hb => by
    have hi : i < L.length := by omega
    have hbd := best_drop (cut := cut) (L := L) (bar := bar) (sn := sn) hi
    by_cases e : x = i
    · subst e
      have h2 := h.2
      rw [Int.toNat_natCast] at h2
      have h3 := tot_nn hc hx (sn := true) h2
      simp only [tot, Int.toNat_natCast] at hb ⊢
      have h4 := tot_le d (i + 1) (by omega) I (bar - nd cut sn (nth L i)) true h2 (by omega)
      rw [if_pos (by omega)] at hbd
      omega
    · have h5 : asc L.length (i + 1) (x :: I) := ⟨⟨by have := h.1.1; omega, h.1.2⟩, h.2⟩
      have h4 := tot_le d (i + 1) (by omega) (x :: I) bar sn h5 hb
      omega
theorem grd_ok : ∀ (d i : Nat), i + d = L.length → ∀ (bar : Int) (sn : Bool), asc L.length i (grd cut (L.drop i) i bar sn) ∧ tot cut L sn (grd cut (L.drop i) i bar sn) = best cut (L.drop i) bar sn
  | 0, i, hd, bar, sn => by
    rw [List.drop_of_length_le (by omega)]
    exact ⟨trivial, rfl⟩
  | d + 1, i, hd, bar, sn => by
    have hi : i < L.length := by omega
    by_cases h0 : best cut (L.drop i) bar sn = 0
    · rw [grd_zero h0, h0]; exact ⟨trivial, rfl⟩
    · rw [grd_drop hi h0]
      have hbd := best_drop (cut := cut) (L := L) (bar := bar) (sn := sn) hi
      split
      · rename_i h
        obtain ⟨h1, h2⟩ := grd_ok d (i + 1) (by omega) (bar - nd cut sn (nth L i)) true
        refine ⟨⟨by omega, by rw [Int.toNat_natCast]; exact h1⟩, ?_⟩
        simp only [tot, Int.toNat_natCast]
        rw [h2]; exact h.2
      · rename_i h
        obtain ⟨h1, h2⟩ := grd_ok d (i + 1) (by omega) bar sn
        refine ⟨asc_up (by omega) h1, ?_⟩
        rw [h2]
        by_cases hf : nd cut sn (nth L i) ≤ bar
        · rw [if_pos hf] at hbd
          have : ¬ nd cut sn (nth L i) + best cut (L.drop (i + 1)) (bar - nd cut sn (nth L i)) true = best cut (L.drop i) bar sn := fun hc => h ⟨hf, hc⟩
          omega
        · rw [if_neg hf] at hbd
          have := best_nn hc hx (i + 1) bar sn
          omega
theorem grd_first : ∀ (d i : Nat), i + d = L.length → ∀ (I : List Int) (bar : Int) (sn : Bool), asc L.length i I → tot cut L sn I ≤ bar → tot cut L sn I = best cut (L.drop i) bar sn → ¬ lexB I (grd cut (L.drop i) i bar sn)
  | 0, i, hd, I, bar, sn, _, _, _ => by
    rw [List.drop_of_length_le (by omega)]
    exact lexB_nil I
  | d + 1, i, hd, I, bar, sn, h, hb, ht => by
    have hi : i < L.length := by omega
    by_cases h0 : best cut (L.drop i) bar sn = 0
    · rw [grd_zero h0]; exact lexB_nil I
    · have hbd := best_drop (cut := cut) (L := L) (bar := bar) (sn := sn) hi
      cases I with
      | nil => exact absurd ht.symm h0
      | cons x I =>
        rw [grd_drop hi h0]
        split
        · rename_i hh
          intro hl
          by_cases e : x = i
          · subst e
            have h2 := h.2
            rw [Int.toNat_natCast] at h2
            simp only [tot, Int.toNat_natCast] at hb ht
            rcases hl with hl | ⟨_, hl⟩
            · omega
            · exact grd_first d (i + 1) (by omega) I (bar - nd cut sn (nth L i)) true h2 (by omega) (by omega) hl
          · rcases hl with hl | ⟨hl, _⟩
            · have := h.1.1; omega
            · exact e hl
        · rename_i hh
          by_cases e : x = i
          · subst e
            exfalso
            have h2 := h.2
            rw [Int.toNat_natCast] at h2
            have h3 := tot_nn hc hx (sn := true) h2
            simp only [tot, Int.toNat_natCast] at hb ht
            have h4 := tot_le hc hx d (i + 1) (by omega) I (bar - nd cut sn (nth L i)) true h2 (by omega)
            rw [if_pos (by omega)] at hbd
            exact hh ⟨by omega, by omega⟩
          · have h5 : asc L.length (i + 1) (x :: I) := ⟨⟨by have := h.1.1; omega, h.1.2⟩, h.2⟩
            have h6 := tot_le hc hx d (i + 1) (by omega) (x :: I) bar sn h5 hb
            exact grd_first d (i + 1) (by omega) (x :: I) bar sn h5 hb (by omega)
end
end Go.Oct.Shop
