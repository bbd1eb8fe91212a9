/- Lap, Laps. -/
import Derived.Test.YtddkghgfbhhcdaaDoorOPlaPer
set_option maxRecDepth 100000
set_option linter.unusedVariables false
set_option linter.unusedSimpArgs false
namespace Go.Oct.Pla
open Go.Oct
theorem IndexFunc_ok (nl : Bool) (xs : List Int) (hx : xs.length < 2 ^ 62) (g : Nat) (cs ds : List AV) (hg : pl.contains g = false) (hc : cs.all (closed 7) = true) (hd : ds.all (closed 7) = true) (hc8 : cs.all (closed 8) = true) (hd8 : ds.all (closed 8) = true) (P : Int → Bool)
    (h : ∀ j, j < xs.length → ans prog O g (cs ++ .int .i64 (nth xs j) :: ds) = some (.bool (P (nth xs j)))) :
    ∃ n : Int, ans prog O 85 [vs nl xs, .func (.func g) cs ds] = some (.int .i64 n) ∧ (0 ≤ n ↔ ∃ j, j < xs.length ∧ P (nth xs j) = true) ∧ -1 ≤ n := by
  have key : ∀ n : Int, (n = -1 ∧ (∀ j, j < xs.length → P (nth xs j) = false) ∨ (∃ i, n = (i : Nat) ∧ i < xs.length ∧ P (nth xs i) = true ∧ ∀ j, j < i → P (nth xs j) = false)) →
      ans prog O 85 [vs nl xs, .func (.func g) cs ds] = some (.int .i64 n) := by
    intro n hn
    refine fn_of' pl get85 (oo (by decide)) (by simp [hc, hd]) rfl ?_
    simp +contextual (disch := omega) []
    refine lp_count pl xs.length (fun j => [(0, vs nl xs), (1, .func (.func g) cs ds), (7, .int .i64 xs.length), (8, .int .i64 j)]) (fun _ => ⟨0, 0, .leaf⟩) (fun j => ∀ i, i < j → P (nth xs i) = false) (by simp) ?_
    intro j hj hi
    have hg' := hg
    simp at hg'
    simp +contextual (disch := omega) [Und, hg', hc8, hd8, h]
    refine ⟨fun hjl => ⟨fun hp => ?_, fun hp i h1 => ?_⟩, fun hjl => ?_⟩
    · rcases hn with ⟨_, h2⟩ | ⟨i, h1, h2, h3, h4⟩
      · rw [h2 j hjl] at hp; cases hp
      · have : i = j := by
          rcases Nat.lt_trichotomy i j with h5 | h5 | h5
          · rw [hi i h5] at h3; cases h3
          · exact h5
          · rw [h4 j h5] at hp; cases hp
        omega
    · by_cases e : i = j
      · rw [e]; exact hp
      · exact hi i (by omega)
    · rcases hn with ⟨h1, _⟩ | ⟨i, h1, h2, h3, h4⟩
      · omega
      · rw [hi i (by omega)] at h3; cases h3
  by_cases hex : ∃ j, j < xs.length ∧ P (nth xs j) = true
  · have hmin : ∀ m j, j ≤ m → j < xs.length → P (nth xs j) = true → ∃ i, i < xs.length ∧ P (nth xs i) = true ∧ ∀ j, j < i → P (nth xs j) = false := by
      intro m
      induction m with
      | zero => intro j h1 h2 h3; exact ⟨j, h2, h3, fun i hi => by omega⟩
      | succ m ih =>
        intro j h1 h2 h3
        by_cases hb : ∃ i, i < j ∧ P (nth xs i) = true
        · obtain ⟨i, h4, h5⟩ := hb
          exact ih i (by omega) (by omega) h5
        · refine ⟨j, h2, h3, fun i hi => ?_⟩
          cases hq : P (nth xs i) with
          | false => rfl
          | true => exact absurd ⟨i, hi, hq⟩ hb
    obtain ⟨j, h1, h2⟩ := hex
    obtain ⟨i, h3, h4, h5⟩ := hmin j j (Nat.le_refl _) h1 h2
    exact ⟨i, key _ (.inr ⟨i, rfl, h3, h4, h5⟩), ⟨fun _ => ⟨j, h1, h2⟩, fun _ => by omega⟩, by omega⟩
  · refine ⟨-1, key _ (.inl ⟨rfl, fun j hj => ?_⟩), ⟨fun h => by omega, fun h => absurd h hex⟩, by omega⟩
    cases hq : P (nth xs j) with
    | false => rfl
    | true => exact absurd ⟨j, hj, hq⟩ hex
theorem ContainsFunc_ok (nl : Bool) (xs : List Int) (hx : xs.length < 2 ^ 62) (g : Nat) (cs ds : List AV) (hg : pl.contains g = false) (hc : cs.all (closed 7) = true) (hd : ds.all (closed 7) = true) (hc8 : cs.all (closed 8) = true) (hd8 : ds.all (closed 8) = true) (P : Int → Bool)
    (h : ∀ j, j < xs.length → ans prog O g (cs ++ .int .i64 (nth xs j) :: ds) = some (.bool (P (nth xs j)))) :
    ans prog O 42 [vs nl xs, .func (.func g) cs ds] = some (.bool (decide (∃ j, j < xs.length ∧ P (nth xs j) = true))) := by
  obtain ⟨n, h1, h2, h3⟩ := IndexFunc_ok nl xs hx g cs ds hg hc hd hc8 hd8 P h
  refine fn_of' pl get42 (oo (by decide)) (by simp [hc, hd]) rfl ?_
  simp +contextual (disch := omega) [h1, hc, hd, h2]
/-- Numbers are places, and a number a nut. -/
def okLap (xs : List Int) (n : Int) : Prop := (1 ≤ (xs.length : Int) ∧ (xs.length : Int) ≤ 64) ∧ (1 ≤ n ∧ n ≤ xs.length) ∧ ∀ j, j < xs.length → -1000000 ≤ nth xs j ∧ nth xs j ≤ 1000000
instance (xs : List Int) (n : Int) : Decidable (okLap xs n) := by unfold okLap; infer_instance
/-- What a nut leaves. -/
def lap (xs : List Int) (n : Nat) : List Int := (List.range (xs.length + 1 - n)).map fun i => gsum ((xs.drop i).take n)
def lapTo (xs : List Int) (n m : Nat) : List Int := (List.range m).map fun i => gsum ((xs.drop i).take n)
theorem lapTo_succ (xs : List Int) (n m : Nat) : lapTo xs n (m + 1) = lapTo xs n m ++ [gsum ((xs.drop m).take n)] := by
  unfold lapTo
  rw [List.range_succ, List.map_append]; rfl
theorem lapTo_length (xs : List Int) (n m : Nat) : (lapTo xs n m).length = m := by simp [lapTo]
theorem lap_eq (xs : List Int) (n : Nat) : lap xs n = lapTo xs n (xs.length + 1 - n) := (rfl)
theorem lap_length (xs : List Int) (n : Nat) : (lap xs n).length = xs.length + 1 - n := by simp [lap]
/-- What Lap answers. -/
def lapRes (nl : Bool) (xs : List Int) (n : Int) : AV := if okLap xs n then .tuple [vs nl (lap xs n.toNat), .int .i64 0] else .tuple [.vsl true [], .int .i64 25]
end Go.Oct.Pla
