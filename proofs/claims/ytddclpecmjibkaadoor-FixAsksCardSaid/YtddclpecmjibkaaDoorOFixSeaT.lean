/- Logs, plain: true tracks, and where the ship can have been. -/
import Derived.Test.YtddclpecmjibkaaDoorOFixSeaP
set_option maxRecDepth 100000
set_option maxHeartbeats 2000000
set_option linter.unusedVariables false
set_option linter.unusedSimpArgs false
namespace Go.Oct.Fix
open Go.Oct
/-- A point of the sea, and its number. -/
def inSea (q : Span) : Prop := (0 ≤ q.lo ∧ q.lo ≤ 59) ∧ 0 ≤ q.hi ∧ q.hi ≤ 59
instance (q : Span) : Decidable (inSea q) := by unfold inSea; infer_instance
def pt (p : Nat) : Span := ⟨((p / 60 : Nat) : Int), ((p % 60 : Nat) : Int)⟩
def ix (q : Span) : Nat := (60 * q.lo + q.hi).toNat
theorem pt_sea {p : Nat} (h : p < 3600) : inSea (pt p) := by unfold inSea pt; simp only; omega
theorem ix_lt {q : Span} (h : inSea q) : ix q < 3600 := by unfold inSea at h; unfold ix; omega
theorem pt_ix {q : Span} (h : inSea q) : pt (ix q) = q := by
  unfold inSea at h
  unfold pt ix
  cases q with
  | mk a b =>
    simp only at h ⊢
    congr 1 <;> omega
theorem ix_pt (p : Nat) : ix (pt p) = p := by unfold ix pt; simp only; omega
theorem pt_lo (p : Nat) : (pt p).lo = ((p / 60 : Nat) : Int) := rfl
theorem pt_hi (p : Nat) : (pt p).hi = ((p % 60 : Nat) : Int) := rfl
/-- A true track, up to a part. -/
structure TrT (E N : Span) (R : List Stp) (G : List (List Stp)) (j : Nat) (t : List Span) : Prop where
  len : t.length = j + 1
  e0 : inI E.lo E.hi (nth t 0).lo = true
  n0 : inI N.lo N.hi (nth t 0).hi = true
  sea : ∀ i, i ≤ j → inSea (nth t i)
  hold : ∀ i, i ≤ j → allH (nth G i) (nth t i).lo (nth t i).hi = true
  goes : ∀ i, i < j → goI (nth R i) (nth t i).lo (nth t i).hi (nth t (i + 1)).lo (nth t (i + 1)).hi = true
section
variable {E N : Span} {R : List Stp} {G : List (List Stp)}
theorem can_of {j : Nat} {t : List Span} (h : TrT E N R G j t) : ∀ i, i ≤ j → can E N R G i (ix (nth t i)) = true
  | 0, hi => by
    have hs := h.sea 0 hi
    have hp := pt_ix hs
    have h1 : ((ix (nth t 0) / 60 : Nat) : Int) = (nth t 0).lo := by rw [← pt_lo, hp]
    have h2 : ((ix (nth t 0) % 60 : Nat) : Int) = (nth t 0).hi := by rw [← pt_hi, hp]
    simp only [can, in0, allN_eq]
    rw [h1, h2, h.e0, h.n0, h.hold 0 hi]; rfl
  | i + 1, hi => by
    have ih := can_of h i (by omega)
    have hs := h.sea (i + 1) hi
    have hs0 := h.sea i (by omega)
    have hp := pt_ix hs
    have hp0 := pt_ix hs0
    have h1 : ((ix (nth t (i + 1)) / 60 : Nat) : Int) = (nth t (i + 1)).lo := by rw [← pt_lo, hp]
    have h2 : ((ix (nth t (i + 1)) % 60 : Nat) : Int) = (nth t (i + 1)).hi := by rw [← pt_hi, hp]
    have h3 : ((ix (nth t i) / 60 : Nat) : Int) = (nth t i).lo := by rw [← pt_lo, hp0]
    have h4 : ((ix (nth t i) % 60 : Nat) : Int) = (nth t i).hi := by rw [← pt_hi, hp0]
    simp only [can, Bool.and_eq_true]
    refine ⟨mv_iff.2 ⟨ix (nth t i), ix_lt hs0, ih, ?_⟩, ?_⟩
    · unfold go; rw [h1, h2, h3, h4]; exact h.goes i (by omega)
    · rw [allN_eq, h1, h2]; exact h.hold (i + 1) hi
theorem TrT.snoc {j p q : Nat} {t : List Span} (h : TrT E N R G j t) (hl : nth t j = pt p) (hq : q < 3600) (hg : go (nth R j) p q = true) (ha : allN (nth G (j + 1)) q = true) : TrT E N R G (j + 1) (t ++ [pt q]) ∧ nth (t ++ [pt q]) (j + 1) = pt q := by
  have hlo : ∀ i, i ≤ j → nth (t ++ [pt q]) i = nth t i := fun i hi => nth_app_lo (by rw [h.len]; omega)
  have hhi : nth (t ++ [pt q]) (j + 1) = pt q := by rw [← h.len]; exact nth_app_hi
  refine ⟨⟨by simp [h.len], by rw [hlo 0 (by omega)]; exact h.e0, by rw [hlo 0 (by omega)]; exact h.n0, fun i hi => ?_, fun i hi => ?_, fun i hi => ?_⟩, hhi⟩
  · by_cases e : i = j + 1
    · rw [e, hhi]; exact pt_sea hq
    · rw [hlo i (by omega)]; exact h.sea i (by omega)
  · by_cases e : i = j + 1
    · rw [e, hhi, pt_lo, pt_hi, ← allN_eq]; exact ha
    · rw [hlo i (by omega)]; exact h.hold i (by omega)
  · by_cases e : i = j
    · rw [e, hhi, hlo j (by omega), hl]; exact hg
    · rw [hlo i (by omega), hlo (i + 1) (by omega)]; exact h.goes i (by omega)
theorem of_can : ∀ (j p : Nat), p < 3600 → can E N R G j p = true → ∃ t, TrT E N R G j t ∧ nth t j = pt p
  | 0, p, hp, h => by
    simp only [can, in0, Bool.and_eq_true] at h
    refine ⟨[pt p], ⟨rfl, h.1.1, h.1.2, fun i hi => ?_, fun i hi => ?_, fun i hi => by omega⟩, rfl⟩
    · obtain rfl : i = 0 := by omega
      exact pt_sea hp
    · obtain rfl : i = 0 := by omega
      exact h.2
  | j + 1, p, hp, h => by
    simp only [can, Bool.and_eq_true] at h
    obtain ⟨m, h1, h2, h3⟩ := mv_iff.1 h.1
    obtain ⟨t, ht, hl⟩ := of_can j m h1 h2
    exact ⟨_, ht.snoc hl hp h3 h.2⟩
theorem was_of {t : List Span} (h : TrT E N R G R.length t) : ∀ d, d ≤ R.length → was E N R G d (ix (nth t (R.length - d))) = true
  | 0, _ => can_of h R.length (Nat.le_refl _)
  | d + 1, hd => by
    have ih := was_of h d (by omega)
    have e : R.length - d = R.length - (d + 1) + 1 := by omega
    simp only [was, Bool.and_eq_true]
    refine ⟨can_of h _ (by omega), mb_iff.2 ⟨ix (nth t (R.length - d)), ix_lt (h.sea _ (by omega)), ih, ?_⟩⟩
    have hp := pt_ix (h.sea (R.length - d) (by omega))
    have hp0 := pt_ix (h.sea (R.length - (d + 1)) (by omega))
    unfold go
    rw [← pt_lo, ← pt_hi, ← pt_lo, ← pt_hi, hp, hp0]
    have := h.goes (R.length - (d + 1)) (by omega)
    rw [← e] at this
    exact this
end
end Go.Oct.Fix
