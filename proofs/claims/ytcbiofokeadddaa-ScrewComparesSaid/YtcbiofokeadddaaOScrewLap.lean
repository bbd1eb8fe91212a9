/- Lap, Laps. -/
import Derived.Test.YtcbiofokeadddaaOScrewPer
set_option maxRecDepth 100000
set_option linter.unusedVariables false
set_option linter.unusedSimpArgs false
namespace Go.Oct.Screw
open Go.Oct
theorem IndexFunc_ok (nl : Bool) (xs : List Int) (hx : xs.length < 2 ^ 62) (g : Nat) (cs ds : List AV) (hg : pl.contains g = false) (hc : cs.all (closed 7) = true) (hd : ds.all (closed 7) = true) (hc8 : cs.all (closed 8) = true) (hd8 : ds.all (closed 8) = true) (P : Int → Bool)
    (h : ∀ j, j < xs.length → ans prog O g (cs ++ .int .i64 (nth xs j) :: ds) = some (.bool (P (nth xs j)))) :
    ∃ n : Int, ans prog O 100 [vs nl xs, .func (.func g) cs ds] = some (.int .i64 n) ∧ (0 ≤ n ↔ ∃ j, j < xs.length ∧ P (nth xs j) = true) ∧ -1 ≤ n := by
  have key : ∀ n : Int, (n = -1 ∧ (∀ j, j < xs.length → P (nth xs j) = false) ∨ (∃ i, n = (i : Nat) ∧ i < xs.length ∧ P (nth xs i) = true ∧ ∀ j, j < i → P (nth xs j) = false)) →
      ans prog O 100 [vs nl xs, .func (.func g) cs ds] = some (.int .i64 n) := by
    intro n hn
    refine fn_of' pl get100 (oo (by decide)) (by simp [hc, hd]) rfl ?_
    simp +contextual (disch := omega) []
    refine lp_count pl xs.length (fun j => [(0, vs nl xs), (1, .func (.func g) cs ds), (7, .int .i64 xs.length), (8, .int .i64 j)]) (fun _ => ⟨0, 0, .leaf⟩) (fun j => ∀ i, i < j → P (nth xs i) = false) (by simp) ?_
    intro j hj hi
    have hg' := hg
    simp at hg'
    simp +contextual (disch := omega) [Und, hg', hc8, hd8, h]
    refine ⟨fun hjl => ⟨fun hp => ?_, fun hp i h1 => ?_⟩, fun hjl => ?_⟩
    · rcases hn with ⟨_, h2⟩ | ⟨i, h1, h2, h3, h4⟩
      · rw [h2 j hjl] at hp; cases hp
      · have : i = j := by
          rcases Nat.lt_trichotomy i j with h5 | h5 | h5
          · rw [hi i h5] at h3; cases h3
          · exact h5
          · rw [h4 j h5] at hp; cases hp
        omega
    · by_cases e : i = j
      · rw [e]; exact hp
      · exact hi i (by omega)
    · rcases hn with ⟨h1, _⟩ | ⟨i, h1, h2, h3, h4⟩
      · omega
      · rw [hi i (by omega)] at h3; cases h3
  by_cases hex : ∃ j, j < xs.length ∧ P (nth xs j) = true
  · have hmin : ∀ m j, j ≤ m → j < xs.length → P (nth xs j) = true → ∃ i, i < xs.length ∧ P (nth xs i) = true ∧ ∀ j, j < i → P (nth xs j) = false := by
      intro m
      induction m with
      | zero => intro j h1 h2 h3; exact ⟨j, h2, h3, fun i hi => by omega⟩
      | succ m ih =>
        intro j h1 h2 h3
        by_cases hb : ∃ i, i < j ∧ P (nth xs i) = true
        · obtain ⟨i, h4, h5⟩ := hb
          exact ih i (by omega) (by omega) h5
        · refine ⟨j, h2, h3, fun i hi => ?_⟩
          cases hq : P (nth xs i) with
          | false => rfl
          | true => exact absurd ⟨i, hi, hq⟩ hb
    obtain ⟨j, h1, h2⟩ := hex
    obtain ⟨i, h3, h4, h5⟩ := hmin j j (Nat.le_refl _) h1 h2
    exact ⟨i, key _ (.inr ⟨i, rfl, h3, h4, h5⟩), ⟨fun _ => ⟨j, h1, h2⟩, fun _ => by omega⟩, by omega⟩
  · refine ⟨-1, key _ (.inl ⟨rfl, fun j hj => ?_⟩), ⟨fun h => by omega, fun h => absurd h hex⟩, by omega⟩
    cases hq : P (nth xs j) with
    | false => rfl
    | true => exact absurd ⟨j, hj, hq⟩ hex
theorem ContainsFunc_ok (nl : Bool) (xs : List Int) (hx : xs.length < 2 ^ 62) (g : Nat) (cs ds : List AV) (hg : pl.contains g = false) (hc : cs.all (closed 7) = true) (hd : ds.all (closed 7) = true) (hc8 : cs.all (closed 8) = true) (hd8 : ds.all (closed 8) = true) (P : Int → Bool)
    (h : ∀ j, j < xs.length → ans prog O g (cs ++ .int .i64 (nth xs j) :: ds) = some (.bool (P (nth xs j)))) :
    ans prog O 70 [vs nl xs, .func (.func g) cs ds] = some (.bool (decide (∃ j, j < xs.length ∧ P (nth xs j) = true))) := by
  obtain ⟨n, h1, h2, h3⟩ := IndexFunc_ok nl xs hx g cs ds hg hc hd hc8 hd8 P h
  refine fn_of' pl get70 (oo (by decide)) (by simp [hc, hd]) rfl ?_
  simp +contextual (disch := omega) [h1, hc, hd, h2]
/-- Numbers are places, and a number a nut. -/
def okLap (xs : List Int) (n : Int) : Prop := (1 ≤ (xs.length : Int) ∧ (xs.length : Int) ≤ 64) ∧ (1 ≤ n ∧ n ≤ xs.length) ∧ ∀ j, j < xs.length → -1000000 ≤ nth xs j ∧ nth xs j ≤ 1000000
instance (xs : List Int) (n : Int) : Decidable (okLap xs n) := by unfold okLap; infer_instance
theorem isLapped1_ok (n : Int) : ans prog O 105 [.int .i64 n] = some (.bool (!decide (-1000000 ≤ n ∧ n ≤ 1000000))) := by
  refine fn_of' pl get105 (oo (by decide)) rfl rfl ?_
  simp +contextual (disch := omega) []
@[simp] theorem isLapped_ok (nl : Bool) (xs : List Int) (hx : xs.length < 2 ^ 62) (n : Int) : ans prog O 84 [vs nl xs, .int .i64 n] = some (.bool (decide (okLap xs n))) := by
  refine fn_of' pl get84 (oo (by decide)) rfl rfl ?_
  simp +contextual (disch := omega) [ContainsFunc_ok nl xs hx 105 [] [] (by decide) rfl rfl rfl rfl (fun n => !decide (-1000000 ≤ n ∧ n ≤ 1000000)) (fun j _ => isLapped1_ok (nth xs j))]
  rw [Bool.eq_iff_iff]
  simp only [Bool.and_eq_true, decide_eq_true_eq, Bool.not_eq_true', decide_eq_false_iff_not]
  constructor
  · rintro ⟨⟨h1, h2⟩, h3⟩
    exact ⟨h1, h2, fun j hj => by
      by_cases h4 : nth xs j < -1000000 ∨ 1000000 < nth xs j
      · exact absurd ⟨j, hj, h4⟩ h3
      · omega⟩
  · rintro ⟨h1, h2, h3⟩
    exact ⟨⟨h1, h2⟩, by rintro ⟨j, hj, h⟩; have := h3 j hj; omega⟩
@[simp] theorem places_ok (nl : Bool) (xs : List Int) (hx : xs.length < 2 ^ 62) (n : Int) : ans prog O 86 [vs nl xs, .int .i64 n] = some (.bool (decide (okLap xs n))) := by
  refine fn_of' pl get86 (oo (by decide)) rfl rfl ?_
  simp +contextual (disch := omega) []
  refine lp_loop pl (fun k fr σ => ∃ j b, j + k = xs.length ∧ fr = ⟨[(0, vs nl xs), (5, .bool b), (6, .int .i64 j)], []⟩ ∧ σ = ⟨0, 0, .leaf⟩ ∧
    (b = true ↔ ((1 ≤ (xs.length : Int) ∧ (xs.length : Int) ≤ 64) ∧ 1 ≤ n ∧ n ≤ xs.length) ∧ ∀ i, i < j → -1000000 ≤ nth xs i ∧ nth xs i ≤ 1000000)) ⟨xs.length, 0, _, by omega, rfl, rfl, by simp [and_assoc]⟩ ?_
  rintro k _ _ ⟨j, b, hj, rfl, rfl, hb⟩
  simp +contextual (disch := omega) [Und, -Bool.exists_bool]
  refine ⟨fun hbt hjl => ⟨k - 1, by omega, j + 1, by omega, _, ⟨rfl, by omega⟩, ?_⟩, fun hjl => ?_⟩
  · simp only [Bool.and_eq_true, decide_eq_true_eq]
    constructor
    · intro h
      refine ⟨(hb.1 hbt).1, fun i hi => ?_⟩
      by_cases e : i = j
      · subst e; exact h
      · exact (hb.1 hbt).2 i (by omega)
    · intro h; exact h.2 j (by omega)
  · rw [Bool.eq_iff_iff, hb]
    simp only [decide_eq_true_eq]
    constructor
    · rintro ⟨⟨h1, h2⟩, h3⟩
      have := hjl (hb.2 ⟨⟨h1, h2⟩, h3⟩)
      exact ⟨h1, h2, fun i hi => h3 i (by omega)⟩
    · rintro ⟨h1, h2, h3⟩
      exact ⟨⟨h1, h2⟩, fun i hi => h3 i (by omega)⟩
@[simp] theorem sum_ok (nl : Bool) (xs : List Int) (hx : xs.length < 2 ^ 62) : ans prog O 106 [vs nl xs] = some (.int .i64 (gsum xs)) := by
  refine fn_of' pl get106 (oo (by decide)) rfl rfl ?_
  simp +contextual (disch := omega) []
  refine lp_count pl xs.length (fun j => [(2, .int .i64 (gsum (xs.take j))), (5, vs nl xs), (6, .int .i64 xs.length), (7, .int .i64 j)]) (fun _ => ⟨0, 0, .leaf⟩) (fun _ => True) (by simp) ?_
  intro j hj _
  simp +contextual (disch := omega) [Und, gsum_succ, take_all]
/-- What a nut leaves. -/
def lap (xs : List Int) (n : Nat) : List Int := (List.range (xs.length + 1 - n)).map fun i => gsum ((xs.drop i).take n)
def lapTo (xs : List Int) (n m : Nat) : List Int := (List.range m).map fun i => gsum ((xs.drop i).take n)
theorem lapTo_succ (xs : List Int) (n m : Nat) : lapTo xs n (m + 1) = lapTo xs n m ++ [gsum ((xs.drop m).take n)] := by
  unfold lapTo
  rw [List.range_succ, List.map_append]; rfl
theorem lapTo_length (xs : List Int) (n m : Nat) : (lapTo xs n m).length = m := by simp [lapTo]
theorem lap_eq (xs : List Int) (n : Nat) : lap xs n = lapTo xs n (xs.length + 1 - n) := (rfl)
theorem nutlap_ok (nl : Bool) (xs : List Int) (hx : xs.length < 2 ^ 40) (n : Nat) (hn : 1 ≤ n) (hn2 : n < 2 ^ 40) : ans prog O 85 [.int .i64 n, vs nl xs] = some (vs false (lap xs n)) := by
  refine fn_of' pl get85 (oo (by decide)) rfl rfl ?_
  simp +contextual (disch := omega) [topBytes]
  refine ⟨by omega, ?_⟩
  refine lp_loop pl (fun k fr σ => ∃ j v, j + k = xs.length + 1 - n ∧ fr = ⟨[(0, .int .i64 n), (1, vs nl xs), (5, v), (14, .int .i64 (xs.length - n + 1)), (15, .int .i64 j)], []⟩ ∧ σ.lim = 0 ∧ BufC 0 1 (AV.int .i64) σ v xs.length (lapTo xs n j)) ⟨_, 0, _, Nat.zero_add _, rfl, rfl, BufC.make (σ := ⟨0, 0, .leaf⟩) (zero := [.int .i64 0]) (Nat.le_refl _) rfl _⟩ ?_
  rintro k _ σ ⟨j, v, hj, rfl, hσ, hb⟩
  simp +contextual (disch := omega) [Und]
  refine ⟨fun hjl => ⟨by omega, by omega, ?_⟩, fun hjl => ?_⟩
  · have hl : ((xs.drop j).take n).length < 2 ^ 62 := by simp; omega
    rw [show ((j : Int) + n).toNat - j = n by omega]
    simp +contextual (disch := omega) [hl]
    refine hb.push encI (by omega) (Nat.zero_le _) (gsum ((xs.drop j).take n)) (by rw [lapTo_length]; omega) rfl fun v' σ' hb' hk => ?_
    have := hk.lim
    simp +contextual (disch := omega) []
    refine ⟨k - 1, by omega, j + 1, by omega, v', ⟨rfl, by omega⟩, by omega, ?_⟩
    rw [lapTo_succ]; exact hb'
  · rw [hb.fz encI 6 (fun _ _ => rfl), lap_eq, show j = xs.length + 1 - n by omega]
theorem lapped_ok (nl : Bool) (xs : List Int) (hx : xs.length < 2 ^ 40) (n : Nat) (hn : 1 ≤ n) (hn2 : n < 2 ^ 40) : ans prog O 87 [vs nl xs, .int .i64 n] = some (vs (lap xs n).isEmpty (lap xs n)) := by
  refine fn_of' pl get87 (oo (by decide)) rfl rfl ?_
  simp +contextual (disch := omega) []
  refine lp_loop pl (fun k fr σ => ∃ j v, j + k = xs.length + 1 - n ∧ fr = ⟨[(0, vs nl xs), (1, .int .i64 n), (5, v), (6, .int .i64 j)], []⟩ ∧ σ.lim = 0 ∧ Buf 0 1 (AV.int .i64) σ v (lapTo xs n j)) ⟨_, 0, _, Nat.zero_add _, rfl, rfl, Buf.nil⟩ ?_
  rintro k _ σ ⟨j, v, hj, rfl, hσ, hb⟩
  simp +contextual (disch := omega) [Und]
  have hl : ((xs.drop j).take n).length < 2 ^ 62 := by simp; omega
  rw [show ((j : Int) + n).toNat - j = n by omega]
  refine ⟨fun hjl => ⟨by omega, by omega, ?_⟩, fun hjl => ?_⟩
  · simp +contextual (disch := omega) [hl]
    refine hb.push encI (by omega) (Nat.zero_le _) (gsum ((xs.drop j).take n)) (by rw [lapTo_length]; simp only [topBytes]; omega) rfl fun v' σ' hb' hk => ?_
    have := hk.lim
    simp +contextual (disch := omega) []
    refine ⟨k - 1, by omega, j + 1, by omega, v', ⟨rfl, by omega⟩, by omega, ?_⟩
    rw [lapTo_succ]; exact hb'
  · rw [hb.fzI, lap_eq, show j = xs.length + 1 - n by omega]
theorem lap_length (xs : List Int) (n : Nat) : (lap xs n).length = xs.length + 1 - n := by simp [lap]
/-- What Lap answers. -/
def lapRes (nl : Bool) (xs : List Int) (n : Int) : AV := if okLap xs n then .tuple [vs nl (lap xs n.toNat), .int .i64 0] else .tuple [.vsl true [], .int .i64 25]
theorem Lap_ok (nl : Bool) (xs : List Int) (hx : xs.length < 2 ^ 62) (n : Int) : ans prog O 32 [vs nl xs, .int .i64 n] = some (lapRes false xs n) := by
  refine fn_of' pl get32 (oo (by decide)) rfl rfl ?_
  unfold lapRes
  by_cases h : okLap xs n
  · have h' := h
    obtain ⟨h1, h2, h3⟩ := h'
    have e : n = (n.toNat : Nat) := by omega
    have := nutlap_ok nl xs (by omega) n.toNat (by omega) (by omega)
    rw [← e] at this
    simp +contextual (disch := omega) [h, this]
  · simp +contextual (disch := omega) [h]
theorem RefLap_ok (nl : Bool) (xs : List Int) (hx : xs.length < 2 ^ 62) (n : Int) : ans prog O 33 [vs nl xs, .int .i64 n] = some (lapRes (lap xs n.toNat).isEmpty xs n) := by
  refine fn_of' pl get33 (oo (by decide)) rfl rfl ?_
  unfold lapRes
  by_cases h : okLap xs n
  · have h' := h
    obtain ⟨h1, h2, h3⟩ := h'
    have e : n = (n.toNat : Nat) := by omega
    have := lapped_ok nl xs (by omega) n.toNat (by omega) (by omega)
    rw [← e] at this
    simp +contextual (disch := omega) [h, this]
  · simp +contextual (disch := omega) [h]
end Go.Oct.Screw
