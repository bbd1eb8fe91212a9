/- The specification's cuts, plain: between what they leave an angle. -/
import Derived.Test.YtcnemenlbbickaaORoundsEndL
set_option maxRecDepth 100000
set_option maxHeartbeats 2000000
set_option linter.unusedVariables false
set_option linter.unusedSimpArgs false
namespace Go.Oct.Rounds
open Go.Oct
theorem c_setA (P Q : List Int) (lo hi : Int) : ∀ (A : List An) (k : Nat), k < A.length →
    cLo (setA A k lo hi) P Q = cLo A P Q + (if sideP P Q (nth A k) = 1 then lo - (nth A k).lo else if sideP P Q (nth A k) = -1 then (nth A k).hi - hi else 0) ∧
    cHi (setA A k lo hi) P Q = cHi A P Q + (if sideP P Q (nth A k) = 1 then hi - (nth A k).hi else if sideP P Q (nth A k) = -1 then (nth A k).lo - lo else 0)
  | [], k, h => by simp at h
  | a :: A, 0, _ => by
    have e : setA (a :: A) 0 lo hi = ⟨a.t, a.s, lo, hi⟩ :: A := rfl
    have e2 : sideP P Q ⟨a.t, a.s, lo, hi⟩ = sideP P Q a := rfl
    rw [e]
    simp only [cLo, cHi, List.foldr_cons, e2, nth_zero]
    constructor <;> (split <;> (try split) <;> omega)
  | a :: A, k + 1, h => by
    have ih := c_setA P Q lo hi A k (by simpa using h)
    have e : setA (a :: A) (k + 1) lo hi = a :: setA A k lo hi := rfl
    rw [e]
    simp only [cLo, cHi, List.foldr_cons, nth_succ] at ih ⊢
    rw [ih.1, ih.2]
    exact ⟨by omega, by omega⟩
/-- The bounds that a cut sets to an angle. -/
def ubd (A : List An) (P Q : List Int) (k : Nat) : Int := if sideP P Q (nth A k) = 1 then (nth A k).lo + (mustP P Q - cLo A P Q) else (nth A k).lo + (cHi A P Q - mustP P Q)
def lbd (A : List An) (P Q : List Int) (k : Nat) : Int := if sideP P Q (nth A k) = 1 then (nth A k).hi - (cHi A P Q - mustP P Q) else (nth A k).hi - (mustP P Q - cLo A P Q)
theorem sideP_cases (P Q : List Int) (a : An) : sideP P Q a = 1 ∨ sideP P Q a = -1 ∨ sideP P Q a = 0 := by
  unfold sideP
  split
  · exact .inl rfl
  · split
    · exact .inr (.inl rfl)
    · exact .inr (.inr rfl)
section
variable {N : Nat} {C : List Bool} {A : List An}
theorem bd_sound (hok : okNet N C A) {h : List Int} (hc : isCl N C A h) {P Q : List Int} (hp : okPf N C P Q) {k : Nat} (hk : k < A.length) (hs : sideP P Q (nth A k) ≠ 0) : lbd A P Q k ≤ nth h k ∧ nth h k ≤ ubd A P Q k := by
  have b := (inA_iff.2 hc.1).2 k hk
  obtain ⟨_, _, o3, o4, o5⟩ := hok.2.2.2.1 k hk
  have hok2 : okNet N C (setA A k (nth h k) (nth h k)) := okNet_setA hok hk (by omega) (by omega) (by omega)
  have hc2 := (isCl_sub (T := N) (C := C) hk (lo := nth h k) (hi := nth h k) (by omega) (by omega) (h := h)).2 ⟨hc, by omega, by omega⟩
  have n1 := never_both hok2 hc2 hp true
  have n2 := never_both hok2 hc2 hp false
  obtain ⟨c1, c2⟩ := c_setA P Q (nth h k) (nth h k) A k hk
  unfold hold at n1 n2
  rw [c2] at n1
  rw [c1] at n2
  unfold lbd ubd
  rcases sideP_cases P Q (nth A k) with e | e | e
  · simp [e] at n1 n2 ⊢; omega
  · simp [e] at n1 n2 ⊢; omega
  · exact absurd e hs
theorem closes_or_proved (hok : okNet N C A) : (∃ h, isCl N C A h) ∨ Proved N C A := by
  have h1 := hok.2.1
  have h2 := hok.2.2.1
  have h3 := hok.1
  obtain ⟨v, hv, _⟩ := Some_ok N true C true A (by omega) (by omega)
  cases hv with
  | bad h => exact absurd hok h
  | none _ h => exact .inr h
  | ok h' _ hc' => exact .inl ⟨h', hc'⟩
theorem bd_tight (hok : okNet N C A) {k : Nat} (hk : k < A.length) {s : Span} (hs : IsSpan N C A k s) :
    (s.hi = (nth A k).hi ∨ ∃ P Q, okPf N C P Q ∧ sideP P Q (nth A k) ≠ 0 ∧ ubd A P Q k ≤ s.hi) ∧
    (s.lo = (nth A k).lo ∨ ∃ P Q, okPf N C P Q ∧ sideP P Q (nth A k) ≠ 0 ∧ s.lo ≤ lbd A P Q k) := by
  obtain ⟨⟨ha, hac, hae⟩, ⟨hb, hbc, hbe⟩, hall⟩ := hs
  have b1 := (inA_iff.2 hac.1).2 k hk
  have b2 := (inA_iff.2 hbc.1).2 k hk
  have b3 := hall ha hac
  obtain ⟨_, _, o3, o4, o5⟩ := hok.2.2.2.1 k hk
  constructor
  · by_cases e : s.hi = (nth A k).hi
    · exact .inl e
    · right
      have hok2 : okNet N C (setA A k (s.hi + 1) (nth A k).hi) := okNet_setA hok hk (by omega) (by omega) (by omega)
      rcases closes_or_proved hok2 with ⟨f, hf⟩ | ⟨P, Q, small, hp, hh⟩
      · obtain ⟨x1, x2⟩ := (isCl_sub hk (by omega) (by omega)).1 hf
        have := hall f x1; omega
      · have n1 := never_both hok hac hp true
        have n2 := never_both hok hac hp false
        obtain ⟨c1, c2⟩ := c_setA P Q (s.hi + 1) (nth A k).hi A k hk
        unfold hold at n1 n2 hh
        rw [c1, c2] at hh
        refine ⟨P, Q, hp, ?_⟩
        unfold ubd
        rcases sideP_cases P Q (nth A k) with e | e | e <;> cases small <;> simp [e] at n1 n2 hh ⊢ <;> omega
  · by_cases e : s.lo = (nth A k).lo
    · exact .inl e
    · right
      have hok2 : okNet N C (setA A k (nth A k).lo (s.lo - 1)) := okNet_setA hok hk (by omega) (by omega) (by omega)
      rcases closes_or_proved hok2 with ⟨f, hf⟩ | ⟨P, Q, small, hp, hh⟩
      · obtain ⟨x1, x2⟩ := (isCl_sub hk (by omega) (by omega)).1 hf
        have := hall f x1; omega
      · have n1 := never_both hok hac hp true
        have n2 := never_both hok hac hp false
        obtain ⟨c1, c2⟩ := c_setA P Q (nth A k).lo (s.lo - 1) A k hk
        unfold hold at n1 n2 hh
        rw [c1, c2] at hh
        refine ⟨P, Q, hp, ?_⟩
        unfold lbd
        rcases sideP_cases P Q (nth A k) with e | e | e <;> cases small <;> simp [e] at n1 n2 hh ⊢ <;> omega
/-- What is known when some cuts have been looked at. -/
structure SpI (N : Nat) (C : List Bool) (A : List An) (done : List Int → List Int → Prop) (out : List Span) : Prop where
  len : out.length = A.length
  own : ∀ k, k < A.length → (nth A k).lo ≤ (nth out k).lo ∧ (nth out k).hi ≤ (nth A k).hi
  cut : ∀ P Q, done P Q → okPf N C P Q → ¬ hold A P Q true ∧ ¬ hold A P Q false ∧ ∀ k, k < A.length → sideP P Q (nth A k) ≠ 0 → lbd A P Q k ≤ (nth out k).lo ∧ (nth out k).hi ≤ ubd A P Q k
  snd : ∀ h, isCl N C A h → ∀ k, k < A.length → (nth out k).lo ≤ nth h k ∧ nth h k ≤ (nth out k).hi
def ownS (A : List An) : List Span := A.map fun a => ⟨a.lo, a.hi⟩
theorem ownS_nth {k : Nat} (hk : k < A.length) : nth (ownS A) k = ⟨(nth A k).lo, (nth A k).hi⟩ := nth_map _ hk
theorem SpI.start {D : List Int → List Int → Prop} (hd : ∀ P Q, ¬ D P Q) : SpI N C A D (ownS A) := by
  refine ⟨by simp [ownS], fun k hk => ?_, fun P Q h => absurd h (hd P Q), fun h hc k hk => ?_⟩
  · rw [ownS_nth hk]; simp
  · rw [ownS_nth hk]; exact (inA_iff.2 hc.1).2 k hk
/-- One angle's span, when a cut is looked at. -/
def updS (A : List An) (P Q : List Int) (k : Nat) (s : Span) : Span := if sideP P Q (nth A k) = 0 then s else ⟨max s.lo (lbd A P Q k), min s.hi (ubd A P Q k)⟩
theorem SpI.next {D D' : List Int → List Int → Prop} {out out' : List Span} (hi : SpI N C A D out) (hok : okNet N C A) {P Q : List Int} (hp : okPf N C P Q) (hn : ¬ hold A P Q true) (hn2 : ¬ hold A P Q false) (hl : out'.length = A.length)
    (hu : ∀ k, k < A.length → nth out' k = updS A P Q k (nth out k)) (hD : ∀ P' Q', D' P' Q' → D P' Q' ∨ (P' = P ∧ Q' = Q)) : SpI N C A D' out' := by
  have sub : ∀ k, k < A.length → (nth out k).lo ≤ (nth out' k).lo ∧ (nth out' k).hi ≤ (nth out k).hi := fun k hk => by
    rw [hu k hk]
    unfold updS
    split
    · simp
    · simp; omega
  refine ⟨hl, fun k hk => ?_, fun P' Q' h hp' => ?_, fun h hc k hk => ?_⟩
  · have h1 := sub k hk
    have h2 := hi.own k hk
    omega
  · rcases hD P' Q' h with h1 | ⟨rfl, rfl⟩
    · obtain ⟨c1, c2, c3⟩ := hi.cut P' Q' h1 hp'
      refine ⟨c1, c2, fun k hk hs => ?_⟩
      have h1 := sub k hk
      have h2 := c3 k hk hs
      omega
    · refine ⟨hn, hn2, fun k hk hs => ?_⟩
      rw [hu k hk]
      unfold updS
      rw [if_neg hs]
      simp; omega
  · have h1 := hi.snd h hc k hk
    rw [hu k hk]
    unfold updS
    split
    · exact h1
    · rename_i hs
      have h2 := bd_sound hok hc hp hk hs
      simp; omega
theorem SpI.done {out l : List Span} (hi : SpI N C A (fun _ _ => True) out) (hok : okNet N C A) (hl : l.length = A.length) (hs : ∀ k, k < A.length → IsSpan N C A k (nth l k)) : out = l := by
  refine ext_nth (hi.len.trans hl.symm) fun k hk => ?_
  rw [hi.len] at hk
  obtain ⟨t1, t2⟩ := bd_tight hok hk (hs k hk)
  obtain ⟨⟨ha, hac, hae⟩, ⟨hb, hbc, hbe⟩, hall⟩ := hs k hk
  have s1 := hi.snd ha hac k hk
  have s2 := hi.snd hb hbc k hk
  have s3 := hi.own k hk
  have a1 : (nth out k).hi = (nth l k).hi := by
    rcases t1 with e | ⟨P, Q, hp, hs, hb⟩
    · omega
    · have := (hi.cut P Q trivial hp).2.2 k hk hs; omega
  have a2 : (nth out k).lo = (nth l k).lo := by
    rcases t2 with e | ⟨P, Q, hp, hs, hb⟩
    · omega
    · have := (hi.cut P Q trivial hp).2.2 k hk hs; omega
  cases h1 : nth out k; cases h2 : nth l k
  rw [h1, h2] at a1 a2
  simp only at a1 a2
  rw [a1, a2]
theorem SpI.not_proved {out : List Span} (hi : SpI N C A (fun _ _ => True) out) : ¬ Proved N C A := by
  rintro ⟨P, Q, small, hp, hh⟩
  obtain ⟨c1, c2, _⟩ := hi.cut P Q trivial hp
  cases small
  · exact c2 hh
  · exact c1 hh
/-- The numbers of a set. -/
def pM (m n : Nat) : List Int := sel (fun k => decide (m / 2 ^ k % 2 = 1)) n
theorem bitsum (f : Nat → Bool) : ∀ n : Nat, ∃ m, m < 2 ^ n ∧ ∀ k, k < n → decide (m / 2 ^ k % 2 = 1) = f k
  | 0 => ⟨0, by simp, fun k hk => by omega⟩
  | n + 1 => by
    obtain ⟨m, h1, h2⟩ := bitsum f n
    have hp : 2 ^ (n + 1) = 2 * 2 ^ n := by rw [Nat.pow_succ]; omega
    have hpos : 0 < 2 ^ n := Nat.pow_pos (by decide)
    cases hf : f n
    · refine ⟨m, by omega, fun k hk => ?_⟩
      by_cases e : k = n
      · subst e
        rw [Nat.div_eq_of_lt h1, hf]; rfl
      · exact h2 k (by omega)
    · refine ⟨m + 2 ^ n, by omega, fun k hk => ?_⟩
      by_cases e : k = n
      · subst e
        rw [Nat.add_div_right _ hpos, Nat.div_eq_of_lt h1, hf]; rfl
      · rw [← h2 k (by omega)]
        have e2 : 2 ^ n = 2 ^ k * (2 * 2 ^ (n - k - 1)) := by
          rw [← Nat.pow_succ', ← Nat.pow_add]; congr 1; omega
        have e3 : (m + 2 ^ n) / 2 ^ k % 2 = m / 2 ^ k % 2 := by
          rw [e2, Nat.add_mul_div_left _ _ (Nat.pow_pos (by decide))]; omega
        rw [e3]
theorem pM_all {l : List Int} {n : Nat} (h : rise l n) : ∃ m, m < 2 ^ n ∧ l = pM m n := by
  obtain ⟨m, h1, h2⟩ := bitsum (fun k => l.contains (k : Int)) n
  refine ⟨m, h1, ?_⟩
  conv => lhs; rw [rise_sel n l h]
  exact sel_congr fun k hk => (h2 k hk).symm
theorem pM_rise (m n : Nat) : rise (pM m n) n := sel_rise _ _
end
end Go.Oct.Rounds
