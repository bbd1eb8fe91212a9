/- Pages that got wet: which bytes are lost, and the digits that were there. -/
import Derived.Test.YtddkghgfbhhcdaaGreatDoorOLogOpn
import Derived.Test.YtddkghgfbhhcdaaGreatDoorOLogFil
set_option maxRecDepth 100000
set_option maxHeartbeats 4000000
set_option linter.unusedVariables false
set_option linter.unusedSimpArgs false
namespace Go.Oct.Log
open Go.Oct
theorem mem_lostE {i k : Int} {l : List Int} {p : Pl} : ∀ j, p ∈ lostE i k l j ↔ ∃ a : Nat, a < j ∧ nth l a = 63 ∧ p = ⟨i, k, a⟩
  | 0 => by simp [lostE]
  | j + 1 => by
    rw [lostE, List.mem_append, mem_lostE j]
    constructor
    · rintro (⟨a, h1, h2, h3⟩ | h)
      · exact ⟨a, by omega, h2, h3⟩
      · by_cases e : nth l j = 63
        · rw [if_pos e] at h; exact ⟨j, by omega, e, List.mem_singleton.1 h⟩
        · rw [if_neg e] at h; cases h
    · rintro ⟨a, h1, h2, h3⟩
      by_cases e : a = j
      · subst e; exact .inr (by rw [if_pos h2]; exact List.mem_singleton.2 h3)
      · exact .inl ⟨a, by omega, h2, h3⟩
theorem mem_lostR {i : Int} {row : List (List Int)} {p : Pl} : ∀ k, p ∈ lostR i row k ↔ ∃ c a : Nat, c < k ∧ a < (nth row c).length ∧ nth (nth row c) a = 63 ∧ p = ⟨i, c, a⟩
  | 0 => by simp [lostR]
  | k + 1 => by
    rw [lostR, List.mem_append, mem_lostR k, mem_lostE]
    constructor
    · rintro (⟨c, a, h1, h2⟩ | ⟨a, h1, h2⟩)
      · exact ⟨c, a, by omega, h2⟩
      · exact ⟨k, a, by omega, h1, h2⟩
    · rintro ⟨c, a, h1, h2, h3⟩
      by_cases e : c = k
      · subst e; exact .inr ⟨a, h2, h3⟩
      · exact .inl ⟨c, a, by omega, h2, h3⟩
theorem mem_lostP {R : Page} {p : Pl} : ∀ n, p ∈ lostP R n ↔ ∃ r c a : Nat, r < n ∧ c < (nth R r).length ∧ a < (nth (nth R r) c).length ∧ nth (nth (nth R r) c) a = 63 ∧ p = ⟨r, c, a⟩
  | 0 => by simp [lostP]
  | n + 1 => by
    rw [lostP, List.mem_append, mem_lostP n, mem_lostR]
    constructor
    · rintro (⟨r, c, a, h1, h2⟩ | ⟨c, a, h1, h2⟩)
      · exact ⟨r, c, a, by omega, h2⟩
      · exact ⟨n, c, a, by omega, h1, h2⟩
    · rintro ⟨r, c, a, h1, h2, h3⟩
      by_cases e : r = n
      · subst e; exact .inr ⟨c, a, h2, h3⟩
      · exact .inl ⟨r, c, a, by omega, h2, h3⟩
theorem lostE_nodup {i k : Int} {l : List Int} : ∀ j, (lostE i k l j).Nodup
  | 0 => List.nodup_nil
  | j + 1 => by
    rw [lostE, List.nodup_append]
    refine ⟨lostE_nodup j, by split <;> simp, fun a ha b hb e => ?_⟩
    subst e
    obtain ⟨a1, h1, _, h3⟩ := (mem_lostE j).1 ha
    split at hb
    · have := List.mem_singleton.1 hb
      rw [h3] at this
      injection this with _ _ h4
      omega
    · cases hb
theorem lostR_nodup {i : Int} {row : List (List Int)} : ∀ k, (lostR i row k).Nodup
  | 0 => List.nodup_nil
  | k + 1 => by
    rw [lostR, List.nodup_append]
    refine ⟨lostR_nodup k, lostE_nodup _, fun a ha b hb e => ?_⟩
    subst e
    obtain ⟨c, a1, h1, _, _, h3⟩ := (mem_lostR k).1 ha
    obtain ⟨a2, _, _, h4⟩ := (mem_lostE _).1 hb
    rw [h3] at h4
    injection h4 with _ h5 _
    omega
theorem lostP_nodup {R : Page} : ∀ n, (lostP R n).Nodup
  | 0 => List.nodup_nil
  | n + 1 => by
    rw [lostP, List.nodup_append]
    refine ⟨lostP_nodup n, lostR_nodup _, fun a ha b hb e => ?_⟩
    subst e
    obtain ⟨r, c, a1, h1, _, _, _, h3⟩ := (mem_lostP n).1 ha
    obtain ⟨c2, a2, _, _, _, h4⟩ := (mem_lostR _).1 hb
    rw [h3] at h4
    injection h4 with h5 _ _
    omega
theorem nthE {α : Type} [Inhabited α] {l : List α} {j : Nat} (h : j < l.length) : nth l j = l[j] := by simp [nth, List.getD_eq_getElem?_getD, h]
theorem nth_inj {α : Type} [Inhabited α] {l : List α} (h : l.Nodup) {j k : Nat} (hj : j < l.length) (hk : k < l.length) (e : nth l j = nth l k) : j = k := by
  rw [nthE hj, nthE hk] at e
  exact (List.getElem_inj h).1 e
theorem okL_lost {w : Nat} {R : Page} (h : okP w R) (hN : (lost R).length ≤ 5) : okL w R (lost R) := by
  refine ⟨hN, fun j hj => ?_, fun j j' hj hj' e => nth_inj (lostP_nodup _) hj hj' e⟩
  obtain ⟨r, c, a, h1, h2, h3, _, h5⟩ := (mem_lostP _).1 (nth_mem hj)
  exact ⟨r, c, a, h5, h1, by rw [h.wide r h1] at h2; exact h2, h3⟩
/-- A page of numbers, with all sums. -/
structure Full (w : Nat) (R : Page) : Prop where
  rows : 2 ≤ R.length ∧ R.length ≤ 5
  cols : 2 ≤ w ∧ w ≤ 5
  wide : ∀ i, i < R.length → (nth R i).length = w
  ent : ∀ i k, i < R.length → k < w → ∃ n : Nat, n < 100000 ∧ nth (nth R i) k = dg n
  row : ∀ i, i < R.length → rowAg (fun _ => 0) R w i
  col : ∀ k, k < w → colAg (fun _ => 0) R k
/-- A page of which some bytes are lost. -/
structure Wet (w : Nat) (R R0 : Page) : Prop where
  rows : R.length = R0.length
  wide : ∀ i, i < R0.length → (nth R i).length = w
  len : ∀ i k, i < R0.length → k < w → (nth (nth R i) k).length = (nth (nth R0 i) k).length
  byt : ∀ i k a, i < R0.length → k < w → a < (nth (nth R0 i) k).length → nth (nth (nth R i) k) a = 63 ∨ nth (nth (nth R i) k) a = nth (nth (nth R0 i) k) a
theorem Wet.okP {w : Nat} {R R0 : Page} (h : Wet w R R0) (hf : Full w R0) : okP w R := by
  refine ⟨by rw [h.rows]; exact hf.rows, hf.cols, fun i hi => h.wide i (by rw [← h.rows]; exact hi), fun i k hi hk => ?_⟩
  rw [h.rows] at hi
  obtain ⟨n, hn, e⟩ := hf.ent i k hi hk
  have hl := h.len i k hi hk
  have l1 := dg_ne n
  have l2 := dg_len 4 n hn
  rw [e] at hl
  refine ⟨by omega, fun x hx => ?_, fun h1 => ?_⟩
  · obtain ⟨a, ha, rfl⟩ := mem_nth.1 hx
    rcases h.byt i k a hi hk (by rw [e]; omega) with h2 | h2
    · exact .inl h2
    · rw [h2, e]
      exact .inr (dg_digs n _ (nth_mem (by omega)))
  · rcases h.byt i k 0 hi hk (by rw [e]; omega) with h2 | h2
    · rw [h2]; decide
    · rw [h2, e]
      exact dg_lead n (by omega)
/-- What was there. -/
def was (R0 : Page) (p : Pl) : Int := nth (nth (nth R0 p.row.toNat) p.col.toNat) p.at_.toNat - 48
def truth (R0 R : Page) : List Int := (lost R).map (was R0)
theorem list_eq {α : Type} [Inhabited α] {a b : List α} (h : a.length = b.length) (h2 : ∀ j, j < a.length → nth a j = nth b j) : a = b := by
  apply List.ext_getElem h
  intro j h3 h4
  rw [← nthE h3, ← nthE h4]
  exact h2 j h3
theorem sub_back {w : Nat} {R R0 : Page} (h : Wet w R R0) {D : Pl → Int} {i k : Nat} (hi : i < R0.length) (hk : k < w) (hD : ∀ p ∈ lost R, p.row = i → D p = was R0 p) : sub (fun j => D ⟨i, k, j⟩) (nth (nth R i) k) = nth (nth R0 i) k := by
  have hl := h.len i k hi hk
  refine list_eq (by rw [sub_len, hl]) fun a ha => ?_
  rw [sub_len] at ha
  rw [sub_nth ha]
  split
  · next e =>
    have := hD ⟨i, k, a⟩ ((mem_lostP _).2 ⟨i, k, a, by rw [h.rows]; exact hi, by rw [h.wide i hi]; exact hk, ha, e, rfl⟩) rfl
    rw [this]
    unfold was
    simp only [Int.toNat_natCast]
    omega
  · next e => exact (h.byt i k a hi hk (by omega)).resolve_left e
theorem ent_back {w : Nat} {R R0 : Page} (hf : Full w R0) (h : Wet w R R0) {D : Pl → Int} {i k : Nat} (hi : i < R0.length) (hk : k < w) (hD : ∀ p ∈ lost R, p.row = i → D p = was R0 p) : entv D R i k = entv (fun _ => 0) R0 i k := by
  unfold entv
  rw [sub_back h hi hk hD]
  obtain ⟨n, hn, e⟩ := hf.ent i k hi hk
  rw [e]
  congr 1
  refine list_eq (by rw [sub_len]) fun a ha => ?_
  rw [sub_nth ha, if_neg]
  have := dg_digs n _ (nth_mem ha)
  omega
theorem rsum_back {w : Nat} {R R0 : Page} (hf : Full w R0) (h : Wet w R R0) {D : Pl → Int} {i : Nat} (hi : i < R0.length) (hD : ∀ p ∈ lost R, p.row = i → D p = was R0 p) : ∀ k, k ≤ w → rsum D R i k = rsum (fun _ => 0) R0 i k
  | 0, _ => rfl
  | k + 1, hk => by rw [rsum, rsum, rsum_back hf h hi hD k (by omega), ent_back hf h hi (by omega) hD]
theorem csum_back {w : Nat} {R R0 : Page} (hf : Full w R0) (h : Wet w R R0) {D : Pl → Int} {k : Nat} (hk : k < w) (hD : ∀ p ∈ lost R, D p = was R0 p) : ∀ i, i ≤ R0.length → csum D R k i = csum (fun _ => 0) R0 k i
  | 0, _ => rfl
  | i + 1, hi => by rw [csum, csum, csum_back hf h hk hD i (by omega), ent_back hf h (by omega) hk fun p hp _ => hD p hp]
theorem truth_nth {R0 R : Page} {j : Nat} (hj : j < (lost R).length) : nth (truth R0 R) j = was R0 (nth (lost R) j) := by unfold truth; rw [nth_map _ hj]
theorem was_digit {w : Nat} {R R0 : Page} (hf : Full w R0) (h : Wet w R R0) {p : Pl} (hp : p ∈ lost R) : ∃ i k a n : Nat, p = ⟨i, k, a⟩ ∧ i < R0.length ∧ k < w ∧ a < (dg n).length ∧ nth (nth R0 i) k = dg n ∧ was R0 p = nth (dg n) a - 48 ∧ (nth (nth R i) k).length = (dg n).length := by
  obtain ⟨r, c, a, h1, h2, h3, h4, h5⟩ := (mem_lostP _).1 hp
  rw [h.rows] at h1
  rw [h.wide r h1] at h2
  obtain ⟨n, hn, e⟩ := hf.ent r c h1 h2
  have hl := h.len r c h1 h2
  refine ⟨r, c, a, n, h5, h1, h2, by rw [← e]; omega, e, ?_, by rw [hl, e]⟩
  rw [h5]
  unfold was
  simp only [Int.toNat_natCast, e]
theorem truth_ok {w : Nat} {R R0 : Page} (hf : Full w R0) (h : Wet w R R0) : Truth w R (lost R) (truth R0 R) := by
  have key : ∀ (D : Pl → Int) (P : Pl → Prop), (∀ j, j < (lost R).length → P (nth (lost R) j) → D (nth (lost R) j) = nth (truth R0 R) j) → ∀ p ∈ lost R, P p → D p = was R0 p := fun D P hD p hp h1 => by
    obtain ⟨j, hj, rfl⟩ := mem_nth.1 hp
    rw [hD j hj h1, truth_nth hj]
  refine ⟨by unfold truth; rw [List.length_map], fun j hj => ?_, fun D i hi hD => ?_, fun D hD k hk => ?_, fun j hj i k e h1 => ?_⟩
  · rw [truth_nth hj]
    obtain ⟨i, k, a, n, _, _, _, ha, _, e, _⟩ := was_digit hf h (nth_mem hj)
    rw [e]
    have := dg_digs n _ (nth_mem ha)
    omega
  · rw [h.rows] at hi
    have hD' := key D (fun p => p.row = i) hD
    have := hf.row i hi
    unfold rowAg at this ⊢
    have hw := hf.cols
    rw [rsum_back hf h hi hD' _ (by omega), ent_back hf h hi (by omega) hD']
    exact this
  · have hD' : ∀ p ∈ lost R, D p = was R0 p := fun p hp => key D (fun _ => True) (fun j hj _ => hD j hj) p hp trivial
    have := hf.col k hk
    unfold colAg at this ⊢
    have hw := hf.rows
    rw [h.rows, csum_back hf h hk hD' _ (by omega), ent_back hf h (by omega) hk fun p hp _ => hD' p hp]
    exact this
  · rw [truth_nth hj]
    obtain ⟨i', k', a, n, e2, _, _, ha, e3, e4, e5⟩ := was_digit hf h (nth_mem hj)
    rw [e] at e2
    injection e2 with q1 q2 q3
    have q1 : i = i' := by omega
    have q2 : k = k' := by omega
    have q3 : a = 0 := by omega
    subst q1 q2 q3
    rw [e4]
    have := dg_lead n (by omega)
    omega
end Go.Oct.Log
