/- FixThrough, plain: the log in which the ship is at a point behind some runs. -/
import Derived.Test.YtddclpecmjibkaaDoorOFixSatP
set_option maxRecDepth 100000
set_option maxHeartbeats 2000000
set_option linter.unusedVariables false
set_option linter.unusedSimpArgs false
namespace Go.Oct.Fix
open Go.Oct
/-- Two sights that hold at one point alone. -/
def hereL (p : Span) : List Stp := [⟨1, 1, 0, p.lo, p.lo, 0, 0, 0, 0, true, []⟩, ⟨1, 0, 1, p.hi, p.hi, 0, 0, 0, 0, true, []⟩]
def insT (S h : List Stp) (k : Nat) : Nat → List Stp
  | 0 => []
  | i + 1 => (if isRun (nth S i) = true ∧ (rnT S i).length = k then insT S h k i ++ h else insT S h k i) ++ [nth S i]
def insL (S h : List Stp) (k : Nat) : List Stp := if (rns S).length = k then insT S h k S.length ++ h else insT S h k S.length
theorem rns_app (A B : List Stp) : rns (A ++ B) = rns A ++ rns B := List.filter_append ..
theorem rns_here (p : Span) : rns (hereL p) = [] := rfl
theorem insT_rns {S h : List Stp} {k : Nat} (hh : rns h = []) : ∀ i, i ≤ S.length → rns (insT S h k i) = rnT S i
  | 0, _ => rfl
  | i + 1, hi => by
    have ih := insT_rns (S := S) (h := h) (k := k) hh i (by omega)
    rw [rnT_succ (by omega)]
    simp only [insT]
    rw [rns_app]
    have h1 : rns [nth S i] = if isRun (nth S i) = true then [nth S i] else [] := by
      unfold rns
      by_cases e : isRun (nth S i) = true <;> simp [List.filter, e]
    rw [h1]
    split
    · rw [rns_app, hh, List.append_nil, ih]
    · rw [ih]
theorem insL_rns {S h : List Stp} {k : Nat} (hh : rns h = []) : rns (insL S h k) = rns S := by
  have := insT_rns (S := S) (k := k) hh S.length (Nat.le_refl _)
  rw [rnT_all] at this
  unfold insL
  split
  · rw [rns_app, hh, List.append_nil, this]
  · exact this
theorem insT_len {S h : List Stp} {k : Nat} (hh : rns h = []) : ∀ i, i ≤ S.length → (insT S h k i).length = i + if k < (rnT S i).length then h.length else 0
  | 0, _ => by simp [insT, rnT, rns]
  | i + 1, hi => by
    have ih := insT_len (S := S) (h := h) (k := k) hh i (by omega)
    have hs := rnT_succ (S := S) (i := i) (by omega)
    simp only [insT]
    rw [List.length_append, List.length_singleton, hs, List.length_append]
    by_cases e : isRun (nth S i) = true
    · rw [if_pos e, List.length_singleton]
      by_cases e1 : (rnT S i).length = k
      · rw [if_pos ⟨e, e1⟩, List.length_append, ih, if_neg (by omega), if_pos (by omega)]; omega
      · rw [if_neg (fun h => e1 h.2), ih]
        by_cases e2 : k < (rnT S i).length
        · rw [if_pos e2, if_pos (by omega)]; omega
        · rw [if_neg e2, if_neg (by omega)]
    · rw [if_neg e, if_neg (fun h => e h.1), ih, List.length_nil, Nat.add_zero, Nat.add_right_comm]; rfl
theorem insT_sat {S h : List Stp} {k : Nat} {t : List Span} (hh : rns h = []) : ∀ i, i ≤ S.length → (sat t (insT S h k i) 0 ↔ sat t (S.take i) 0 ∧ (k < (rnT S i).length → sat t h k))
  | 0, _ => by simp [insT, rnT, rns, sat]
  | i + 1, hi => by
    have ih := insT_sat (S := S) (h := h) (k := k) (t := t) hh i (by omega)
    have hr := insT_rns (S := S) (k := k) hh i (by omega)
    have hs := rnT_succ (S := S) (i := i) (by omega)
    have hr2 : (rns (S.take i)).length = (rnT S i).length := rfl
    rw [take_succ_nth (show i < S.length by omega), sat_app (S.take i), Nat.zero_add, hr2]
    simp only [insT]
    by_cases e : isRun (nth S i) = true
    · have hll : (rnT S (i + 1)).length = (rnT S i).length + 1 := by rw [hs, if_pos e]; simp
      rw [hll]
      by_cases e1 : (rnT S i).length = k
      · rw [if_pos ⟨e, e1⟩, sat_app, sat_app, ih, Nat.zero_add, Nat.zero_add, rns_app, hh, List.append_nil, hr, e1]
        constructor
        · rintro ⟨⟨⟨a, _⟩, b⟩, c⟩
          exact ⟨⟨a, c⟩, fun _ => b⟩
        · rintro ⟨⟨a, c⟩, b⟩
          exact ⟨⟨⟨a, fun h => absurd h (Nat.lt_irrefl _)⟩, b (Nat.lt_succ_self _)⟩, c⟩
      · rw [if_neg (fun h => e1 h.2), sat_app, ih, Nat.zero_add, hr]
        constructor
        · rintro ⟨⟨a, b⟩, c⟩
          exact ⟨⟨a, c⟩, fun h => b (by omega)⟩
        · rintro ⟨⟨a, c⟩, b⟩
          exact ⟨⟨a, fun h => b (by omega)⟩, c⟩
    · have hll : (rnT S (i + 1)).length = (rnT S i).length := by rw [hs, if_neg e, List.append_nil]
      rw [hll, if_neg (fun h => e h.1), sat_app, ih, Nat.zero_add, hr]
      constructor
      · rintro ⟨⟨a, b⟩, c⟩
        exact ⟨⟨a, c⟩, b⟩
      · rintro ⟨⟨a, c⟩, b⟩
        exact ⟨⟨a, b⟩, c⟩
theorem insL_sat {S h : List Stp} {k : Nat} {t : List Span} (hh : rns h = []) (hk : k ≤ (rns S).length) : sat t (insL S h k) 0 ↔ sat t S 0 ∧ sat t h k := by
  have h1 := insT_sat (S := S) (h := h) (k := k) (t := t) hh S.length (Nat.le_refl _)
  have hr := insT_rns (S := S) (k := k) hh S.length (Nat.le_refl _)
  rw [List.take_length, rnT_all] at h1
  rw [rnT_all] at hr
  unfold insL
  by_cases e : (rns S).length = k
  · rw [if_pos e, sat_app, h1, Nat.zero_add, hr, e]
    constructor
    · rintro ⟨⟨a, _⟩, b⟩; exact ⟨a, b⟩
    · rintro ⟨a, b⟩; exact ⟨⟨a, fun _ => b⟩, b⟩
  · rw [if_neg e, h1]
    constructor
    · rintro ⟨a, b⟩; exact ⟨a, b (by omega)⟩
    · rintro ⟨a, b⟩; exact ⟨a, fun _ => b⟩
theorem here_sat {p : Span} {k : Nat} {t : List Span} : sat t (hereL p) k ↔ nth t k = p := by
  have h1 : ∀ s : Stp, s.k = 1 → ¬ isRun s = true := fun s h => by unfold isRun; simp [h]
  unfold hereL
  simp only [sat]
  rw [if_neg (h1 _ rfl), if_neg (h1 _ rfl)]
  simp only [hld, if_true, inI_iff, Int.one_mul, Int.zero_mul, Int.add_zero, Int.zero_add, and_true]
  constructor
  · rintro ⟨⟨a, b⟩, c, d⟩
    cases h : nth t k with
    | mk x y =>
      rw [h] at a b c d
      cases p with
      | mk u v =>
        simp only at a b c d
        rw [show x = u by omega, show y = v by omega]
  · rintro rfl
    exact ⟨⟨Int.le_refl _, Int.le_refl _⟩, Int.le_refl _, Int.le_refl _⟩
theorem true_ins {E N : Span} {S : List Stp} {p : Span} {k : Nat} {t : List Span} (hk : k ≤ (rns S).length) : TrueT E N (insL S (hereL p) k) t ↔ TrueT E N S t ∧ nth t k = p := by
  rw [true_sat, true_sat, insL_rns (rns_here p), insL_sat (rns_here p) hk, here_sat]
  constructor
  · rintro ⟨a, b, c, d, e, f⟩; exact ⟨⟨a, b, c, d, e⟩, f⟩
  · rintro ⟨⟨a, b, c, d, e⟩, f⟩; exact ⟨a, b, c, d, e, f⟩
/-- There is a point just where there is a true track. -/
theorem can_true {E N : Span} {S : List Stp} : ptsL (canR E N S) ≠ [] ↔ ∃ t, TrueT E N S t := by
  constructor
  · intro h
    obtain ⟨q, hq⟩ := List.exists_mem_of_ne_nil _ h
    obtain ⟨m, h1, h2, _⟩ := ptsL_mem.1 hq
    obtain ⟨t, ht, _⟩ := of_can _ m h1 h2
    exact ⟨t, ht⟩
  · rintro ⟨t, ht⟩ h
    have hs := ht.sea _ (Nat.le_refl _)
    have : nth t (rns S).length ∈ ptsL (canR E N S) := ptsL_mem.2 ⟨ix (nth t (rns S).length), ix_lt hs, can_of ht _ (Nat.le_refl _), (pt_ix hs).symm⟩
    rw [h] at this; cases this
theorem was_pt {E N : Span} {S : List Stp} {p : Span} {k : Nat} (hk : k ≤ (rns S).length) (hp : inSea p) : p ∈ ptsL (wasF E N S ((rns S).length - k)) ↔ ∃ t, TrueT E N S t ∧ nth t k = p := by
  have e : (rns S).length - ((rns S).length - k) = k := by omega
  constructor
  · intro h
    obtain ⟨m, h1, h2, h3⟩ := ptsL_mem.1 h
    obtain ⟨t, a, b⟩ := (was_true (by omega) h1).1 h2
    rw [e] at b
    exact ⟨t, a, b.trans h3.symm⟩
  · rintro ⟨t, a, b⟩
    refine ptsL_mem.2 ⟨ix p, ix_lt hp, (was_true (by omega) (ix_lt hp)).2 ⟨t, a, ?_⟩, (pt_ix hp).symm⟩
    rw [e, pt_ix hp]; exact b
/-- Where the ship can have been, there it can be shown to have been; and nowhere else. -/
theorem ins_iff {E N : Span} {S : List Stp} {p : Span} {k : Nat} (hk : k ≤ (rns S).length) (hp : inSea p) : ptsL (canR E N (insL S (hereL p) k)) ≠ [] ↔ p ∈ ptsL (wasF E N S ((rns S).length - k)) := by
  rw [can_true, was_pt hk hp]
  constructor
  · rintro ⟨t, h⟩; exact ⟨t, (true_ins hk).1 h⟩
  · rintro ⟨t, h⟩; exact ⟨t, (true_ins hk).2 h⟩
theorem here_ok {p : Span} (hp : inSea p) : ∀ s ∈ hereL p, okStp s := by
  unfold inSea at hp
  intro s hs
  unfold hereL at hs
  simp only [List.mem_cons, List.not_mem_nil, or_false] at hs
  rcases hs with rfl | rfl
  · exact .inl ⟨rfl, by simp [okLine], by unfold isSp; simp only; omega, ⟨⟨rfl, rfl⟩, rfl, rfl⟩, rfl⟩
  · exact .inl ⟨rfl, by simp [okLine], by unfold isSp; simp only; omega, ⟨⟨rfl, rfl⟩, rfl, rfl⟩, rfl⟩
theorem insT_mem {S h : List Stp} {k : Nat} : ∀ i, i ≤ S.length → ∀ s ∈ insT S h k i, s ∈ S ∨ s ∈ h
  | 0, _, s, hs => by cases hs
  | i + 1, hi, s, hs => by
    have ih := insT_mem (S := S) (h := h) (k := k) i (by omega)
    simp only [insT] at hs
    rw [List.mem_append, List.mem_singleton] at hs
    rcases hs with hs | rfl
    · split at hs
      · rcases List.mem_append.1 hs with h1 | h1
        · exact ih s h1
        · exact .inr h1
      · exact ih s hs
    · exact .inl (nth_mem (by omega))
theorem insL_mem {S h : List Stp} {k : Nat} {s : Stp} (hs : s ∈ insL S h k) : s ∈ S ∨ s ∈ h := by
  unfold insL at hs
  split at hs
  · rcases List.mem_append.1 hs with h1 | h1
    · exact insT_mem _ (Nat.le_refl _) s h1
    · exact .inr h1
  · exact insT_mem _ (Nat.le_refl _) s hs
theorem ins_ok {E N : Span} {S : List Stp} {p : Span} {k : Nat} (hp : inSea p) (hok : okLog E N S) (hl : (insL S (hereL p) k).length ≤ 12) : okLog E N (insL S (hereL p) k) := by
  refine ⟨hok.1, hok.2.1, hl, fun j hj => ?_⟩
  rcases insL_mem (nth_mem hj) with h | h
  · obtain ⟨i, h1, h2⟩ := mem_nth.1 h
    rw [← h2]; exact hok.2.2.2 i h1
  · exact here_ok hp _ h
end Go.Oct.Fix
