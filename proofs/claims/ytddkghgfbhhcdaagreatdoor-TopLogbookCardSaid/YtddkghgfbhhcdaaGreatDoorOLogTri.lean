/- Trials: when they are valid. -/
import Derived.Test.YtddkghgfbhhcdaaGreatDoorOLogSrtW
import Derived.Test.YtddkghgfbhhcdaaGreatDoorOT3
set_option maxRecDepth 100000
set_option maxHeartbeats 4000000
set_option linter.unusedVariables false
set_option linter.unusedSimpArgs false
namespace Go.Oct.Log.Ck
open Go.Oct
theorem IndexFuncI_ok (nl : Bool) (xs : List Int) (hx : xs.length < 2 ^ 62) (g : Nat) (cs ds : List AV) (hg : pl.contains g = false) (hc : cs.all (closed 7) = true) (hd : ds.all (closed 7) = true) (hc8 : cs.all (closed 8) = true) (hd8 : ds.all (closed 8) = true) (P : Int → Bool)
    (h : ∀ j, j < xs.length → ans prog O g (cs ++ AV.int .i64 (nth xs j) :: ds) = some (.bool (P (nth xs j)))) :
    ∃ n : Int, ans prog O 60 [vl (AV.int .i64) nl xs, .func (.func g) cs ds] = some (.int .i64 n) ∧ (0 ≤ n ↔ ∃ j, j < xs.length ∧ P (nth xs j) = true) ∧ -1 ≤ n := by
  have key : ∀ n : Int, (n = -1 ∧ (∀ j, j < xs.length → P (nth xs j) = false) ∨ (∃ i, n = (i : Nat) ∧ i < xs.length ∧ P (nth xs i) = true ∧ ∀ j, j < i → P (nth xs j) = false)) →
      ans prog O 60 [vl (AV.int .i64) nl xs, .func (.func g) cs ds] = some (.int .i64 n) := by
    intro n hn
    refine fn_of' pl get60 (oo (by decide)) (by simp [hc, hd]) rfl ?_
    simp +contextual (disch := omega) []
    refine lp_count pl xs.length (fun j => [(0, vl (AV.int .i64) nl xs), (1, .func (.func g) cs ds), (7, .int .i64 xs.length), (8, .int .i64 j)]) (fun _ => ⟨0, 0, .leaf⟩) (fun j => ∀ i, i < j → P (nth xs i) = false) (by simp) ?_
    intro j hj hi
    have hg' := hg
    simp at hg'
    simp +contextual (disch := omega) [Und, hg', hc8, hd8, h]
    refine ⟨fun hjl => ⟨fun hp => ?_, fun hp i h1 => ?_⟩, fun hjl => ?_⟩
    · rcases hn with ⟨_, h2⟩ | ⟨i, h1, h2, h3, h4⟩
      · rw [h2 j hjl] at hp; cases hp
      · have : i = j := by
          rcases Nat.lt_trichotomy i j with h5 | h5 | h5
          · rw [hi i h5] at h3; cases h3
          · exact h5
          · rw [h4 j h5] at hp; cases hp
        omega
    · by_cases e : i = j
      · rw [e]; exact hp
      · exact hi i (by omega)
    · rcases hn with ⟨h1, _⟩ | ⟨i, h1, h2, h3, h4⟩
      · omega
      · rw [hi i (by omega)] at h3; cases h3
  by_cases hex : ∃ j, j < xs.length ∧ P (nth xs j) = true
  · have hmin : ∀ m j, j ≤ m → j < xs.length → P (nth xs j) = true → ∃ i, i < xs.length ∧ P (nth xs i) = true ∧ ∀ j, j < i → P (nth xs j) = false := by
      intro m
      induction m with
      | zero => intro j h1 h2 h3; exact ⟨j, h2, h3, fun i hi => by omega⟩
      | succ m ih =>
        intro j h1 h2 h3
        by_cases hb : ∃ i, i < j ∧ P (nth xs i) = true
        · obtain ⟨i, h4, h5⟩ := hb
          exact ih i (by omega) (by omega) h5
        · refine ⟨j, h2, h3, fun i hi => ?_⟩
          cases hq : P (nth xs i) with
          | false => rfl
          | true => exact absurd ⟨i, hi, hq⟩ hb
    obtain ⟨j, h1, h2⟩ := hex
    obtain ⟨i, h3, h4, h5⟩ := hmin j j (Nat.le_refl _) h1 h2
    exact ⟨i, key _ (.inr ⟨i, rfl, h3, h4, h5⟩), ⟨fun _ => ⟨j, h1, h2⟩, fun _ => by omega⟩, by omega⟩
  · refine ⟨-1, key _ (.inl ⟨rfl, fun j hj => ?_⟩), ⟨fun h => by omega, fun h => absurd h hex⟩, by omega⟩
    cases hq : P (nth xs j) with
    | false => rfl
    | true => exact absurd ⟨j, hj, hq⟩ hex
theorem ContainsFuncI_ok (nl : Bool) (xs : List Int) (hx : xs.length < 2 ^ 62) (g : Nat) (cs ds : List AV) (hg : pl.contains g = false) (hc : cs.all (closed 7) = true) (hd : ds.all (closed 7) = true) (hc8 : cs.all (closed 8) = true) (hd8 : ds.all (closed 8) = true) (P : Int → Bool)
    (h : ∀ j, j < xs.length → ans prog O g (cs ++ AV.int .i64 (nth xs j) :: ds) = some (.bool (P (nth xs j)))) :
    ans prog O 32 [vl (AV.int .i64) nl xs, .func (.func g) cs ds] = some (.bool (decide (∃ j, j < xs.length ∧ P (nth xs j) = true))) := by
  obtain ⟨n, h1, h2, h3⟩ := IndexFuncI_ok nl xs hx g cs ds hg hc hd hc8 hd8 P h
  refine fn_of' pl get32 (oo (by decide)) (by simp [hc, hd]) rfl ?_
  simp +contextual (disch := omega) [h1, hc, hd, h2]
theorem IndexFuncE_ok (nl : Bool) (xs : List Ent) (hx : xs.length < 2 ^ 62) (g : Nat) (cs ds : List AV) (hg : pl.contains g = false) (hc : cs.all (closed 7) = true) (hd : ds.all (closed 7) = true) (hc8 : cs.all (closed 8) = true) (hd8 : ds.all (closed 8) = true) (P : Ent → Bool)
    (h : ∀ j, j < xs.length → ans prog O g (cs ++ eEnt (nth xs j) :: ds) = some (.bool (P (nth xs j)))) :
    ∃ n : Int, ans prog O 61 [vl eEnt nl xs, .func (.func g) cs ds] = some (.int .i64 n) ∧ (0 ≤ n ↔ ∃ j, j < xs.length ∧ P (nth xs j) = true) ∧ -1 ≤ n := by
  have key : ∀ n : Int, (n = -1 ∧ (∀ j, j < xs.length → P (nth xs j) = false) ∨ (∃ i, n = (i : Nat) ∧ i < xs.length ∧ P (nth xs i) = true ∧ ∀ j, j < i → P (nth xs j) = false)) →
      ans prog O 61 [vl eEnt nl xs, .func (.func g) cs ds] = some (.int .i64 n) := by
    intro n hn
    refine fn_of' pl get61 (oo (by decide)) (by simp [hc, hd]) rfl ?_
    simp +contextual (disch := omega) []
    refine lp_count pl xs.length (fun j => [(0, vl eEnt nl xs), (1, .func (.func g) cs ds), (7, .int .i64 xs.length), (8, .int .i64 j)]) (fun _ => ⟨0, 0, .leaf⟩) (fun j => ∀ i, i < j → P (nth xs i) = false) (by simp) ?_
    intro j hj hi
    have hg' := hg
    simp at hg'
    simp only [eEnt] at h
    simp +contextual (disch := omega) [Und, hg', hc8, hd8, h]
    refine ⟨fun hjl => ⟨fun hp => ?_, fun hp i h1 => ?_⟩, fun hjl => ?_⟩
    · rcases hn with ⟨_, h2⟩ | ⟨i, h1, h2, h3, h4⟩
      · rw [h2 j hjl] at hp; cases hp
      · have : i = j := by
          rcases Nat.lt_trichotomy i j with h5 | h5 | h5
          · rw [hi i h5] at h3; cases h3
          · exact h5
          · rw [h4 j h5] at hp; cases hp
        omega
    · by_cases e : i = j
      · rw [e]; exact hp
      · exact hi i (by omega)
    · rcases hn with ⟨h1, _⟩ | ⟨i, h1, h2, h3, h4⟩
      · omega
      · rw [hi i (by omega)] at h3; cases h3
  by_cases hex : ∃ j, j < xs.length ∧ P (nth xs j) = true
  · have hmin : ∀ m j, j ≤ m → j < xs.length → P (nth xs j) = true → ∃ i, i < xs.length ∧ P (nth xs i) = true ∧ ∀ j, j < i → P (nth xs j) = false := by
      intro m
      induction m with
      | zero => intro j h1 h2 h3; exact ⟨j, h2, h3, fun i hi => by omega⟩
      | succ m ih =>
        intro j h1 h2 h3
        by_cases hb : ∃ i, i < j ∧ P (nth xs i) = true
        · obtain ⟨i, h4, h5⟩ := hb
          exact ih i (by omega) (by omega) h5
        · refine ⟨j, h2, h3, fun i hi => ?_⟩
          cases hq : P (nth xs i) with
          | false => rfl
          | true => exact absurd ⟨i, hi, hq⟩ hb
    obtain ⟨j, h1, h2⟩ := hex
    obtain ⟨i, h3, h4, h5⟩ := hmin j j (Nat.le_refl _) h1 h2
    exact ⟨i, key _ (.inr ⟨i, rfl, h3, h4, h5⟩), ⟨fun _ => ⟨j, h1, h2⟩, fun _ => by omega⟩, by omega⟩
  · refine ⟨-1, key _ (.inl ⟨rfl, fun j hj => ?_⟩), ⟨fun h => by omega, fun h => absurd h hex⟩, by omega⟩
    cases hq : P (nth xs j) with
    | false => rfl
    | true => exact absurd ⟨j, hj, hq⟩ hex
theorem ContainsFuncE_ok (nl : Bool) (xs : List Ent) (hx : xs.length < 2 ^ 62) (g : Nat) (cs ds : List AV) (hg : pl.contains g = false) (hc : cs.all (closed 7) = true) (hd : ds.all (closed 7) = true) (hc8 : cs.all (closed 8) = true) (hd8 : ds.all (closed 8) = true) (P : Ent → Bool)
    (h : ∀ j, j < xs.length → ans prog O g (cs ++ eEnt (nth xs j) :: ds) = some (.bool (P (nth xs j)))) :
    ans prog O 34 [vl eEnt nl xs, .func (.func g) cs ds] = some (.bool (decide (∃ j, j < xs.length ∧ P (nth xs j) = true))) := by
  obtain ⟨n, h1, h2, h3⟩ := IndexFuncE_ok nl xs hx g cs ds hg hc hd hc8 hd8 P h
  refine fn_of' pl get34 (oo (by decide)) (by simp [hc, hd]) rfl ?_
  simp +contextual (disch := omega) [h1, hc, hd, h2]
def inW (n : Int) : Prop := -100000 ≤ n ∧ n ≤ 100000
instance (n : Int) : Decidable (inW n) := by unfold inW; infer_instance
/-- So many weeks are valid; so many names before are other ones. -/
def okHd (l : List Ent) (i : Nat) : Prop := nameOK (nth l i).name ∧ (2 ≤ ((nth l i).weeks.length : Int) ∧ ((nth l i).weeks.length : Int) ≤ 30) ∧ ((nth l i).weeks.length : Int) = (nth l 0).weeks.length
instance (l : List Ent) (i : Nat) : Decidable (okHd l i) := by unfold okHd; infer_instance
def okWk (l : List Ent) (i n : Nat) : Prop := ∀ k, k < n → inW (nth (nth l i).weeks k)
instance (l : List Ent) (i n : Nat) : Decidable (okWk l i n) := by unfold okWk; infer_instance
def okNm (l : List Ent) (i n : Nat) : Prop := ∀ k, k < n → (nth l k).name ≠ (nth l i).name
instance (l : List Ent) (i n : Nat) : Decidable (okNm l i n) := by unfold okNm; infer_instance
def okEn (l : List Ent) (i : Nat) : Prop := okHd l i ∧ okWk l i (nth l i).weeks.length ∧ okNm l i i
instance (l : List Ent) (i : Nat) : Decidable (okEn l i) := by unfold okEn; infer_instance
def triTo (l : List Ent) (n : Nat) : Prop := (1 ≤ (l.length : Int) ∧ (l.length : Int) ≤ 12) ∧ ∀ i, i < n → okEn l i
instance (l : List Ent) (n : Nat) : Decidable (triTo l n) := by unfold triTo; infer_instance
abbrev okTri (l : List Ent) : Prop := triTo l l.length
theorem triTo_succ {l : List Ent} {n : Nat} : triTo l (n + 1) ↔ triTo l n ∧ okEn l n := by
  unfold triTo
  constructor
  · rintro ⟨h1, h2⟩; exact ⟨⟨h1, fun i hi => h2 i (by omega)⟩, h2 n (by omega)⟩
  · rintro ⟨⟨h1, h2⟩, h3⟩
    refine ⟨h1, fun i hi => ?_⟩
    by_cases e : i = n
    · rw [e]; exact h3
    · exact h2 i (by omega)
/-- Weeks are not longer than memory. -/
def fits (l : List Ent) : Prop := l.length < 2 ^ 62 ∧ ∀ i, i < l.length → (nth l i).weeks.length < 2 ^ 62
end Go.Oct.Log.Ck
