/- Nets, plain: two triangles have each other's numbers, and the angles are told in the other order. -/
import Derived.Test.YtcnemenlbbickaaORoundsSus
set_option maxRecDepth 100000
set_option maxHeartbeats 2000000
set_option linter.unusedVariables false
set_option linter.unusedSimpArgs false
namespace Go.Oct.Rounds
open Go.Oct
def swT (a b t : Int) : Int := if t = a then b else if t = b then a else t
def swA (a b : Int) (x : An) : An := ⟨swT a b x.t, x.s, x.lo, x.hi⟩
def oth (a b : Int) (A : List An) : List An := A.reverse.map (swA a b)
theorem swT_swT (a b t : Int) : swT a b (swT a b t) = t := by
  unfold swT
  by_cases h1 : t = a
  · rw [if_pos h1]
    by_cases h2 : b = a
    · rw [if_pos h2]; omega
    · rw [if_neg h2, if_pos rfl]; omega
  · rw [if_neg h1]
    by_cases h2 : t = b
    · rw [if_pos h2, if_pos rfl]; omega
    · rw [if_neg h2, if_neg h1, if_neg h2]
theorem swT_eq {a b t u : Int} : swT a b t = u ↔ t = swT a b u := by
  constructor
  · intro h; rw [← h, swT_swT]
  · intro h; rw [h, swT_swT]
theorem swT_in {a b t n : Int} (ha : 0 ≤ a ∧ a < n) (hb : 0 ≤ b ∧ b < n) : (0 ≤ swT a b t ∧ swT a b t < n) ↔ (0 ≤ t ∧ t < n) := by
  unfold swT
  split
  · constructor <;> intro <;> omega
  · split
    · constructor <;> intro <;> omega
    · exact Iff.rfl
theorem oth_len (a b : Int) (A : List An) : (oth a b A).length = A.length := by simp [oth]
theorem rev_nth {α : Type} [Inhabited α] {xs : List α} {j : Nat} (h : j < xs.length) : nth xs.reverse j = nth xs (xs.length - 1 - j) := by
  rw [nth_eq (by simpa using h), nth_eq (by omega), List.getElem_reverse]
theorem oth_nth {a b : Int} {A : List An} {j : Nat} (h : j < A.length) : nth (oth a b A) j = swA a b (nth A (A.length - 1 - j)) := by
  unfold oth
  rw [nth_map _ (by simpa using h), rev_nth h]
theorem cntT_oth (a b : Int) (A : List An) (t : Int) : cntT (oth a b A) t = cntT A (swT a b t) := by
  unfold oth
  induction A with
  | nil => rfl
  | cons x A ih =>
    have h1 : (x :: A).reverse.map (swA a b) = A.reverse.map (swA a b) ++ [swA a b x] := by simp
    have h2 : cntT (x :: A) (swT a b t) = (if x.t = swT a b t then 1 else 0) + cntT A (swT a b t) := by
      unfold cntT
      rw [List.filter_cons]
      by_cases e : x.t = swT a b t
      · simp [e]; omega
      · simp [e]
    rw [h1, cntT_app, ih, h2]
    have : (swA a b x).t = t ↔ x.t = swT a b t := swT_eq
    by_cases e : x.t = swT a b t
    · rw [if_pos (this.2 e), if_pos e]; omega
    · rw [if_neg fun h => e (this.1 h), if_neg e]; omega
theorem okNet_oth {T : Int} {C : List Bool} {A : List An} (hok : okNet T C A) {a b : Int} (ha : 0 ≤ a ∧ a < T) (hb : 0 ≤ b ∧ b < T) : okNet T C (oth a b A) := by
  obtain ⟨o1, o2, o3, o4, o5, o6⟩ := hok
  refine ⟨o1, o2, by rw [oth_len]; exact o3, fun i hi => ?_, fun i hi j hj => ?_, fun t ht => ?_⟩
  · rw [oth_len] at hi
    rw [oth_nth hi]
    obtain ⟨a1, a2, a3⟩ := o4 (A.length - 1 - i) (by omega)
    exact ⟨(swT_in ha hb).2 a1, a2, a3⟩
  · rw [oth_len] at hi
    rw [oth_nth hi, oth_nth (show j < A.length by omega)]
    intro h
    have h1 : swT a b (nth A (A.length - 1 - j)).t = swT a b (nth A (A.length - 1 - i)).t := h.1
    rw [swT_eq, swT_swT] at h1
    exact o5 (A.length - 1 - j) (by omega) (A.length - 1 - i) (by omega) ⟨h1.symm, h.2.symm⟩
  · rw [cntT_oth]
    have h1 := (swT_in (t := (t : Int)) ha hb).2 (by omega)
    have := o6 (swT a b t).toNat (by omega)
    rw [show (((swT a b t).toNat : Nat) : Int) = swT a b t by omega] at this
    exact this
theorem sBy_oth (f : An → Bool) (a b : Int) : ∀ (A : List An) (h : List Int), h.length = A.length → sBy f (oth a b A) h.reverse = sBy (fun x => f (swA a b x)) A h
  | [], [], _ => rfl
  | [], _ :: _, h => by simp at h
  | _ :: _, [], h => by simp at h
  | x :: A, y :: h, hl => by
    have ih := sBy_oth f a b A h (by simpa using hl)
    have h1 : oth a b (x :: A) = oth a b A ++ [swA a b x] := by simp [oth]
    rw [h1, List.reverse_cons, sBy_app f _ _ _ _ (by simp [oth]; simpa using hl), ih]
    simp only [sBy]; omega
theorem sBy_congr {f g : An → Bool} (h : ∀ x, f x = g x) : ∀ (A : List An) (l : List Int), sBy f A l = sBy g A l := fun A l => by
  have : f = g := funext h
  rw [this]
theorem clD_oth {N : Nat} {C : List Bool} {A : List An} {a b : Int} (ha : 0 ≤ a ∧ a < N) (hb : 0 ≤ b ∧ b < N) {h : List Int} : clD N C (oth a b A) h.reverse ↔ clD N C A h := by
  have hs : h.length = A.length → ∀ u : Int, sBy (fun x => decide (x.t = u)) (oth a b A) h.reverse = sBy (fun x => decide (x.t = swT a b u)) A h := fun hl u => by
    rw [sBy_oth _ a b A h hl]
    exact sBy_congr (fun x => by
      have : (swA a b x).t = u ↔ x.t = swT a b u := swT_eq
      rw [Bool.eq_iff_iff]; simpa using this) A h
  have hs2 : h.length = A.length → ∀ u : Int, sBy (fun x => decide (x.s = u)) (oth a b A) h.reverse = sBy (fun x => decide (x.s = u)) A h := fun hl u => sBy_oth _ a b A h hl
  unfold clD inA
  rw [oth_len, List.length_reverse]
  constructor
  · rintro ⟨⟨h1, h2⟩, h3, h4⟩
    refine ⟨⟨h1, fun i hi => ?_⟩, fun t ht => ?_, fun s hs' hc => ?_⟩
    · have := h2 (A.length - 1 - i) (by omega)
      rw [oth_nth (by omega), rev_nth (by omega), h1, show A.length - 1 - (A.length - 1 - i) = i by omega] at this
      exact this
    · have h5 := (swT_in (t := (t : Int)) ha hb).2 (by omega)
      have := h3 (swT a b t).toNat (by omega)
      rw [hs h1, show (((swT a b t).toNat : Nat) : Int) = swT a b t by omega, swT_swT] at this
      exact this
    · rw [← hs2 h1]; exact h4 s hs' hc
  · rintro ⟨⟨h1, h2⟩, h3, h4⟩
    refine ⟨⟨h1, fun i hi => ?_⟩, fun t ht => ?_, fun s hs' hc => ?_⟩
    · rw [oth_nth hi, rev_nth (by omega), h1]
      exact h2 (A.length - 1 - i) (by omega)
    · have h5 := (swT_in (t := (t : Int)) ha hb).2 (by omega)
      have := h3 (swT a b t).toNat (by omega)
      rw [show (((swT a b t).toNat : Nat) : Int) = swT a b t by omega] at this
      rw [hs h1]; exact this
    · rw [hs2 h1]; exact h4 s hs' hc
theorem isCl_oth {N : Nat} {C : List Bool} {A : List An} (hok : okNet N C A) {a b : Int} (ha : 0 ≤ a ∧ a < N) (hb : 0 ≤ b ∧ b < N) {h : List Int} : isCl N C (oth a b A) h.reverse ↔ isCl N C A h := by
  rw [← clD_iff hok, ← clD_iff (okNet_oth hok ha hb)]
  exact clD_oth ha hb
theorem setA_oth {a b : Int} {A : List An} {j : Nat} (hj : j < A.length) (lo hi : Int) : setA (oth a b A) j lo hi = oth a b (setA A (A.length - 1 - j) lo hi) := by
  refine ext_nth (by rw [setA_len, oth_len, oth_len, setA_len]) fun q hq => ?_
  rw [setA_len, oth_len] at hq
  rw [setA_nth (by rw [oth_len]; exact hj), oth_nth hj, oth_nth hq, oth_nth (by rw [setA_len]; exact hq), setA_len, setA_nth (by omega)]
  by_cases e : q = j
  · rw [if_pos e, if_pos (by omega)]; rfl
  · rw [if_neg e, if_neg (by omega)]
theorem clB_oth {N : Nat} {C : List Bool} {A : List An} (hok : okNet N C A) {a b : Int} (ha : 0 ≤ a ∧ a < N) (hb : 0 ≤ b ∧ b < N) : clB N C (oth a b A) = clB N C A := by
  rw [Bool.eq_iff_iff, clB_true, clB_true]
  constructor
  · rintro ⟨h, hc⟩
    exact ⟨h.reverse, (isCl_oth hok ha hb).1 (by rw [List.reverse_reverse]; exact hc)⟩
  · rintro ⟨h, hc⟩
    exact ⟨h.reverse, (isCl_oth hok ha hb).2 hc⟩
theorem isSpan_oth {N : Nat} {C : List Bool} {A : List An} (hok : okNet N C A) {a b : Int} (ha : 0 ≤ a ∧ a < N) (hb : 0 ≤ b ∧ b < N) {j : Nat} (hj : j < A.length) {s : Span} (hs : IsSpan N C (oth a b A) j s) : IsSpan N C A (A.length - 1 - j) s := by
  have key : ∀ h, isCl N C (oth a b A) h → isCl N C A h.reverse ∧ nth h.reverse (A.length - 1 - j) = nth h j := fun h hc => by
    have hl : h.length = A.length := by have := (inA_iff.2 hc.1).1; rw [oth_len] at this; exact this
    refine ⟨(isCl_oth hok ha hb).1 (by rw [List.reverse_reverse]; exact hc), ?_⟩
    rw [rev_nth (by omega), hl, show A.length - 1 - (A.length - 1 - j) = j by omega]
  obtain ⟨⟨h1, c1, e1⟩, ⟨h2, c2, e2⟩, hall⟩ := hs
  refine ⟨⟨h1.reverse, (key h1 c1).1, by rw [(key h1 c1).2]; exact e1⟩, ⟨h2.reverse, (key h2 c2).1, by rw [(key h2 c2).2]; exact e2⟩, fun f hf => ?_⟩
  have hl : f.length = A.length := (inA_iff.2 hf.1).1
  have := hall f.reverse ((isCl_oth hok ha hb).2 hf)
  rw [rev_nth (by omega), hl] at this
  exact this
theorem isSpan_unique {T : Int} {C : List Bool} {A : List An} {j : Nat} {s t : Span} (h1 : IsSpan T C A j s) (h2 : IsSpan T C A j t) : s = t := by
  obtain ⟨⟨f1, c1, e1⟩, ⟨f2, c2, e2⟩, a1⟩ := h1
  obtain ⟨⟨g1, d1, e3⟩, ⟨g2, d2, e4⟩, a2⟩ := h2
  have b1 := a2 f1 c1
  have b2 := a2 f2 c2
  have b3 := a1 g1 d1
  have b4 := a1 g2 d2
  cases s; cases t
  simp only at *
  congr 1 <;> omega
theorem sel_cons (f : Nat → Bool) (n : Nat) : sel f (n + 1) = (if f 0 = true then [(0 : Int)] else []) ++ (sel (fun j => f (j + 1)) n).map (· + 1) := by
  unfold sel
  rw [List.range_succ_eq_map, List.filter_cons, List.filter_map, List.map_map]
  by_cases h : f 0 = true
  · rw [if_pos h, if_pos h, List.map_cons, List.map_map]
    show (0 : Int) :: _ = (0 : Int) :: _
    congr 1
  · rw [if_neg h, if_neg h, List.map_map]
    show _ = _
    congr 1
theorem sel_rev (f : Nat → Bool) : ∀ n, sel (fun j => f (n - 1 - j)) n = ((sel f n).map fun x => (n : Int) - 1 - x).reverse
  | 0 => rfl
  | n + 1 => by
    rw [sel_cons, sel_succ, List.map_append, List.reverse_append]
    have ih := sel_rev f n
    have e : sel (fun j => f (n + 1 - 1 - (j + 1))) n = sel (fun j => f (n - 1 - j)) n := sel_congr fun k hk => by congr 1; omega
    rw [e, ih, List.map_reverse, List.map_map]
    have e2 : n + 1 - 1 - 0 = n := by omega
    rw [e2]
    congr 1
    · by_cases h : f n = true
      · rw [if_pos h, if_pos h]; simp
      · rw [if_neg h, if_neg h]; simp
    · congr 1
      refine List.map_congr_left fun x _ => ?_
      simp only [Function.comp]
      omega
theorem susF_oth {N : Nat} {C : List Bool} {A : List An} (hok : okNet N C A) {a b : Int} (ha : 0 ≤ a ∧ a < N) (hb : 0 ≤ b ∧ b < N) {j : Nat} (hj : j < A.length) : susF N C (oth a b A) j = susF N C A (A.length - 1 - j) := by
  unfold susF
  rw [setA_oth hj]
  exact clB_oth (okNet_setA hok (by omega) (by omega) (by omega) (by omega)) ha hb
theorem susL_oth {N : Nat} {C : List Bool} {A : List An} (hok : okNet N C A) {a b : Int} (ha : 0 ≤ a ∧ a < N) (hb : 0 ≤ b ∧ b < N) : susL N C (oth a b A) = ((susL N C A).map fun x => (A.length : Int) - 1 - x).reverse := by
  unfold susL
  rw [oth_len, ← sel_rev]
  exact sel_congr fun k hk => susF_oth hok ha hb hk
end Go.Oct.Rounds
