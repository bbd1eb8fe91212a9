/- Lathes: Check, Pitch. -/
import Derived.Test.YtcbiofokeadddaaOScrewLap
import Derived.Test.YtcbiofokeadddaaOT4
set_option maxRecDepth 100000
set_option maxHeartbeats 1000000
set_option linter.unusedVariables false
set_option linter.unusedSimpArgs false
namespace Go.Oct.Screw
open Go.Oct
/-- A lathe. -/
abbrev eL (nl : Bool) (ws : List Int) (num den : Int) : AV := .agg [vs nl ws, .int .i64 num, .int .i64 den]
def sorts (xs : List Int) : Prop := ∀ i, i < xs.length → 0 < i → nth xs (i - 1) ≤ nth xs i
instance (xs : List Int) : Decidable (sorts xs) := by unfold sorts; infer_instance
def okLathe (ws : List Int) (num den : Int) : Prop := ((2 ≤ (ws.length : Int) ∧ (ws.length : Int) ≤ 10) ∧ (1 ≤ num ∧ num ≤ 1000) ∧ 1 ≤ den ∧ den ≤ 1000) ∧ sorts ws ∧ ∀ i, i < ws.length → 10 ≤ nth ws i ∧ nth ws i ≤ 200
instance (ws : List Int) (num den : Int) : Decidable (okLathe ws num den) := by unfold okLathe; infer_instance
@[simp] theorem isNaN_ok (a : Int) : ans prog O 108 [.int .i64 a] = some (.bool false) := by
  refine fn_of' pl get108 (oo (by decide)) rfl rfl ?_
  simp +contextual (disch := omega) []
@[simp] theorem Less_ok (a b : Int) : ans prog O 94 [.int .i64 a, .int .i64 b] = some (.bool (decide (a < b))) := by
  refine fn_of' pl get94 (oo (by decide)) rfl rfl ?_
  simp +contextual (disch := omega) []
@[simp] theorem IsSorted_ok (nl : Bool) (xs : List Int) (hx : xs.length < 2 ^ 62) : ans prog O 62 [vs nl xs] = some (.bool (decide (sorts xs))) := by
  refine fn_of' pl get62 (oo (by decide)) rfl rfl ?_
  simp +contextual (disch := omega) []
  refine lp_loop pl (fun k fr σ => ∃ j : Nat, j = k ∧ (j : Int) ≤ xs.length ∧ fr = ⟨[(0, vs nl xs), (3, .int .i64 ((j : Int) - 1))], []⟩ ∧ σ = ⟨0, 0, .leaf⟩ ∧ ∀ i, i < xs.length → 0 < i → j ≤ i → nth xs (i - 1) ≤ nth xs i) ⟨xs.length, xs.length, rfl, by omega, rfl, rfl, fun i h1 h2 h3 => by omega⟩ ?_
  rintro k _ _ ⟨j, rfl, hj, rfl, rfl, hs⟩
  have t1 : ((j : Int) - 1).toNat = j - 1 := by omega
  have t2 : ((j : Int) - 1 - 1).toNat = j - 1 - 1 := by omega
  simp +contextual (disch := omega) [Und, t1, t2]
  refine ⟨fun h1 => ⟨⟨by omega, by omega⟩, ⟨by omega, by omega⟩, fun h2 hc => ?_, fun h2 => ⟨j - 1, by omega, by omega, by omega, fun i h3 h4 h5 => ?_⟩⟩, fun h1 i h3 h4 => hs i h3 h4 (by omega)⟩
  · have := hc (j - 1) (by omega) (by omega); omega
  · by_cases e : i = j - 1
    · subst e; exact h2
    · exact hs i h3 h4 (by omega)
@[simp] theorem Check_ok (nl : Bool) (ws : List Int) (num den : Int) (hx : ws.length < 2 ^ 62) : ans prog O 17 [eL nl ws num den] = some (.int .i64 (if okLathe ws num den then 0 else 20)) := by
  refine fn_of' pl get17 (oo (by decide)) rfl rfl ?_
  simp +contextual (disch := omega) []
  refine lp_loop pl (fun k fr σ => ∃ j b, j + k = ws.length ∧ fr = ⟨[(3, .bool b), (26, vs nl ws), (27, .int .i64 ws.length), (28, .int .i64 j)], []⟩ ∧ σ = (⟨0, 0, .leaf⟩ : AH).push (.cells [vs nl ws, .int .i64 num, .int .i64 den]) ∧
    (b = true ↔ ((((2 ≤ (ws.length : Int) ∧ (ws.length : Int) ≤ 10) ∧ (1 ≤ num ∧ num ≤ 1000)) ∧ 1 ≤ den ∧ den ≤ 1000) ∧ sorts ws) ∧ ∀ i, i < j → 10 ≤ nth ws i ∧ nth ws i ≤ 200)) ⟨ws.length, 0, _, by omega, rfl, rfl, by simp [and_assoc]⟩ ?_
  rintro k _ _ ⟨j, b, hj, rfl, rfl, hb⟩
  simp +contextual (disch := omega) [Und, -Bool.exists_bool]
  refine ⟨fun hjl => ⟨k - 1, by omega, j + 1, by omega, _, ⟨rfl, by omega⟩, ?_⟩, fun hjl => ?_⟩
  · simp only [Bool.and_eq_true, decide_eq_true_eq, hb]
    constructor
    · rintro ⟨⟨h1, h2⟩, h3, h4⟩
      refine ⟨h1, fun i hi => ?_⟩
      by_cases e : i = j
      · subst e; exact ⟨h3, h4⟩
      · exact h2 i (by omega)
    · rintro ⟨h1, h2⟩
      exact ⟨⟨h1, fun i hi => h2 i (by omega)⟩, h2 j (by omega)⟩
  · have hok : b = true ↔ okLathe ws num den := by
      rw [hb]
      unfold okLathe
      constructor
      · rintro ⟨⟨⟨⟨h1, h2⟩, h3⟩, h4⟩, h5⟩
        exact ⟨⟨h1, h2, h3⟩, h4, fun i hi => h5 i (by omega)⟩
      · rintro ⟨⟨h1, h2, h3⟩, h4, h5⟩
        exact ⟨⟨⟨⟨h1, h2⟩, h3⟩, h4⟩, fun i hi => h5 i (by omega)⟩
    exact ⟨fun h hk => (by rw [hok.2 hk] at h; cases h), hok.1⟩
@[simp] theorem RefCheck_ok (nl : Bool) (ws : List Int) (num den : Int) (hx : ws.length < 2 ^ 62) : ans prog O 18 [eL nl ws num den] = some (.int .i64 (if okLathe ws num den then 0 else 20)) := by
  refine fn_of' pl get18 (oo (by decide)) rfl rfl ?_
  simp +contextual (disch := omega) []
  refine lp_loop pl (fun k fr σ => ∃ j b last, j + k = ws.length ∧ fr = ⟨[(1, .ptr (some (0, 0))), (3, .bool b), (4, .int .i64 last), (5, .int .i64 j)], []⟩ ∧ σ = (⟨0, 0, .leaf⟩ : AH).push (.cells [vs nl ws, .int .i64 num, .int .i64 den]) ∧
    last = (if j = 0 then 10 else nth ws (j - 1)) ∧
    (b = true ↔ (((2 ≤ (ws.length : Int) ∧ (ws.length : Int) ≤ 10) ∧ (1 ≤ num ∧ num ≤ 1000)) ∧ 1 ≤ den ∧ den ≤ 1000) ∧ ∀ i, i < j → (10 ≤ nth ws i ∧ nth ws i ≤ 200) ∧ (0 < i → nth ws (i - 1) ≤ nth ws i))) ⟨ws.length, 0, _, 10, by omega, rfl, rfl, rfl, by simp [and_assoc]⟩ ?_
  rintro k _ _ ⟨j, b, last, hj, rfl, rfl, hlast, hb⟩
  simp +contextual (disch := omega) [Und, -Bool.exists_bool]
  have hok : b = true → ws.length ≤ j → okLathe ws num den := fun h h2 => by
    obtain ⟨⟨⟨h3, h4⟩, h5⟩, h6⟩ := hb.1 h
    exact ⟨⟨h3, h4, h5⟩, fun i hi h7 => (h6 i (by omega)).2 h7, fun i hi => (h6 i (by omega)).1⟩
  have hno : b = false → ¬ okLathe ws num den := fun h hk => by
    have : b = true := hb.2 ⟨⟨⟨hk.1.1, hk.1.2.1⟩, hk.1.2.2⟩, fun i hi => ⟨hk.2.2 i (by omega), fun h0 => hk.2.1 i (by omega) h0⟩⟩
    rw [h] at this; cases this
  refine ⟨fun hbt hjl => ⟨k - 1, by omega, j + 1, by omega, _, _, ⟨rfl, rfl, by omega⟩, by simp, ?_⟩, fun hjl => ⟨hno, fun h => hok h (hjl h)⟩⟩
  obtain ⟨h1, h2⟩ := hb.1 hbt
  simp only [Bool.and_eq_true, decide_eq_true_eq]
  constructor
  · rintro ⟨h3, h4⟩
    refine ⟨h1, fun i hi => ?_⟩
    by_cases e : i = j
    · subst e
      by_cases h0 : i = 0
      · subst h0; rw [if_pos rfl] at hlast; exact ⟨⟨by omega, h4⟩, fun h => by omega⟩
      · rw [if_neg h0] at hlast
        have := h2 (i - 1) (by omega)
        exact ⟨⟨by omega, h4⟩, fun h => by omega⟩
    · exact h2 i (by omega)
  · rintro ⟨_, h3⟩
    have := h3 j (by omega)
    by_cases h0 : j = 0
    · rw [if_pos h0] at hlast; omega
    · rw [if_neg h0] at hlast
      have := this.2 (by omega)
      omega
theorem pfrom_mem {xs : List Int} {n : Int} (h : n ∈ xs) : ∃ i : Nat, i ≤ xs.length ∧ i < xs.length ∧ nth xs i = n ∧ ∀ j, j < i → nth xs j ≠ n := by
  have hmin : ∀ m j, j ≤ m → j < xs.length → nth xs j = n → ∃ i, i < xs.length ∧ nth xs i = n ∧ ∀ j, j < i → nth xs j ≠ n := by
    intro m
    induction m with
    | zero => intro j h1 h2 h3; exact ⟨j, h2, h3, fun i hi => by omega⟩
    | succ m ih =>
      intro j h1 h2 h3
      by_cases hb : ∃ i, i < j ∧ nth xs i = n
      · obtain ⟨i, h4, h5⟩ := hb
        exact ih i (by omega) (by omega) h5
      · exact ⟨j, h2, h3, fun i hi he => hb ⟨i, hi, he⟩⟩
  obtain ⟨j, h1, h2⟩ := mem_nth.1 h
  obtain ⟨i, h3, h4, h5⟩ := hmin j j (Nat.le_refl _) h1 h2
  exact ⟨i, by omega, h3, h4, h5⟩
theorem Index_ok (nl : Bool) (xs : List Int) (n : Int) (hx : xs.length < 2 ^ 62) : ∃ r : Int, ans prog O 107 [vs nl xs, .int .i64 n] = some (.int .i64 r) ∧ (0 ≤ r ↔ n ∈ xs) := by
  have key : ∀ r : Int, (r = -1 ∧ ¬ n ∈ xs) ∨ (∃ i : Nat, r = i ∧ i < xs.length ∧ nth xs i = n ∧ ∀ j, j < i → nth xs j ≠ n) → ans prog O 107 [vs nl xs, .int .i64 n] = some (.int .i64 r) := by
    intro r hr
    refine fn_of' pl get107 (oo (by decide)) rfl rfl ?_
    simp +contextual (disch := omega) []
    refine lp_count pl xs.length (fun j => [(0, vs nl xs), (1, .int .i64 n), (7, .int .i64 xs.length), (8, .int .i64 j)]) (fun _ => ⟨0, 0, .leaf⟩) (fun j => ∀ i, i < j → nth xs i ≠ n) (by simp) ?_
    intro j hj hi
    simp +contextual (disch := omega) [Und]
    refine ⟨fun hjl => ⟨fun h1 => ?_, fun h1 i h2 => ?_⟩, fun hjl => ?_⟩
    · rcases hr with ⟨_, h3⟩ | ⟨i, h3, h4, h5, h6⟩
      · exact absurd (h1 ▸ nth_mem hjl) h3
      · rcases Nat.lt_trichotomy i j with h7 | h7 | h7
        · exact absurd h5 (hi i h7)
        · omega
        · exact absurd h1.symm (h6 j h7)
    · by_cases e : i = j
      · rw [e]; exact fun h => h1 h.symm
      · exact hi i (by omega)
    · rcases hr with ⟨h3, _⟩ | ⟨i, h3, h4, h5, h6⟩
      · exact h3.symm
      · exact absurd h5 (hi i (by omega))
  by_cases h : n ∈ xs
  · have hp := pfrom_mem h
    obtain ⟨i, h1, h2, h3, h4⟩ := hp
    exact ⟨i, key _ (.inr ⟨i, rfl, h2, h3, h4⟩), ⟨fun _ => h, fun _ => by omega⟩⟩
  · exact ⟨-1, key _ (.inl ⟨rfl, h⟩), ⟨fun h2 => by omega, fun h2 => absurd h2 h⟩⟩
theorem Contains_ok (nl : Bool) (xs : List Int) (n : Int) (hx : xs.length < 2 ^ 62) : ans prog O 93 [vs nl xs, .int .i64 n] = some (.bool (decide (n ∈ xs))) := by
  obtain ⟨r, h1, h2⟩ := Index_ok nl xs n hx
  refine fn_of' pl get93 (oo (by decide)) rfl rfl ?_
  simp +contextual (disch := omega) [h1, h2]
theorem gcd_step (x y : Nat) : Nat.gcd y (x % y) = Nat.gcd x y := by rw [Nat.gcd_comm, ← Nat.gcd_rec, Nat.gcd_comm]
@[simp] theorem Gcd_ok (x y : Nat) (hx : x < 2 ^ 62) (hy : y < 2 ^ 62) : ans prog O 60 [.int .i64 x, .int .i64 y] = some (.int .i64 (Nat.gcd x y : Nat)) := by
  refine fn_of' pl get60 (oo (by decide)) rfl rfl ?_
  simp +contextual (disch := omega) []
  refine lp_loop pl (fun k fr σ => ∃ a b : Nat, b = k ∧ fr = ⟨[(0, .int .i64 a), (1, .int .i64 b)], []⟩ ∧ σ = ⟨0, 0, .leaf⟩ ∧ Nat.gcd a b = Nat.gcd x y) ⟨y, x, y, rfl, rfl, rfl, rfl⟩ ?_
  rintro k _ _ ⟨a, b, rfl, rfl, rfl, hg⟩
  have ht : (a : Int).tmod b = ((a % b : Nat) : Int) := rfl
  simp +contextual (disch := omega) [Und, ht, -Int.natCast_emod]
  refine ⟨fun hb => ⟨by omega, a % b, Nat.mod_lt _ hb, b, ⟨rfl, rfl⟩, by rw [gcd_step, hg]⟩, fun hb => ?_⟩
  subst hb
  rw [Nat.gcd_zero_right] at hg
  rw [hg]
@[simp] theorem lowest_ok (x y : Nat) (hx : x < 2 ^ 62) (hy : y < 2 ^ 62) (h0 : 0 < x) : ans prog O 57 [.agg [.int .i64 x, .int .i64 y]] = some (.agg [.int .i64 (x / Nat.gcd x y : Nat), .int .i64 (y / Nat.gcd x y : Nat)]) := by
  refine fn_of' pl get57 (oo (by decide)) rfl rfl ?_
  simp +contextual (disch := omega) []
  refine lp_loop pl (fun k fr σ => ∃ a b : Nat, b = k ∧ fr = ⟨[(1, .ptr (some (0, 0))), (2, .ptr (some (1, 0))), (3, .int .i64 a), (4, .int .i64 b)], []⟩ ∧ σ = ((⟨0, 0, .leaf⟩ : AH).push (.cells [.int .i64 x, .int .i64 y])).push (.cells [.int .i64 0, .int .i64 0]) ∧ Nat.gcd a b = Nat.gcd x y) ⟨y, x, y, rfl, rfl, rfl, rfl⟩ ?_
  rintro k _ _ ⟨a, b, rfl, rfl, rfl, hg⟩
  have ht : (a : Int).tmod b = ((a % b : Nat) : Int) := rfl
  simp +contextual (disch := omega) [Und, ht, -Int.natCast_emod]
  refine ⟨fun hb => ⟨by omega, a % b, Nat.mod_lt _ hb, b, ⟨rfl, rfl⟩, by rw [gcd_step, hg]⟩, fun hb => ?_⟩
  subst hb
  rw [Nat.gcd_zero_right] at hg
  subst hg
  have h1 := Nat.gcd_pos_of_pos_left y h0
  have h2 := Nat.div_le_self x (x.gcd y)
  have h3 := Nat.div_le_self y (x.gcd y)
  refine ⟨by omega, ?_, ?_⟩
  · rw [← Int.natCast_ediv]; generalize x / x.gcd y = q at *; exact w64_id _ (by omega) (by omega)
  · rw [← Int.natCast_ediv]; generalize y / x.gcd y = q at *; exact w64_id _ (by omega) (by omega)
/-- The wheel of a gear; what the even gears, and the odd ones, make. -/
def sel (ws g : List Int) (i : Nat) : Int := nth ws (nth g i).toNat
def pE (ws g : List Int) (a : Int) : Nat → Int
  | 0 => a
  | m + 1 => pE ws g a m * sel ws g (2 * m)
def pO (ws g : List Int) (a : Int) : Nat → Int
  | 0 => a
  | m + 1 => pO ws g a m * sel ws g (2 * m + 1)
def okGears (n : Nat) (g : List Int) : Prop := (g.length = 2 ∨ g.length = 4) ∧ ∀ i, i < g.length → (0 ≤ nth g i ∧ nth g i ≤ (n : Int) - 1) ∧ ∀ k, k < i → nth g k ≠ nth g i
instance (n : Nat) (g : List Int) : Decidable (okGears n g) := by unfold okGears; infer_instance
def pb : Nat → Int
  | 0 => 1000
  | 1 => 200000
  | _ => 40000000
theorem mul_bd {a b A : Int} (h1 : 1 ≤ a) (h2 : a ≤ A) (h3 : 10 ≤ b) (h4 : b ≤ 200) : 1 ≤ a * b ∧ a * b ≤ A * 200 := by
  have e1 : 1 * 10 ≤ a * b := Int.mul_le_mul h1 h3 (by omega) (by omega)
  have e2 : a * b ≤ A * 200 := Int.mul_le_mul h2 h4 (by omega) (by omega)
  omega
theorem sel_bd {ws g : List Int} {num den : Int} (hl : okLathe ws num den) (hg : okGears ws.length g) {i : Nat} (hi : i < g.length) : 10 ≤ sel ws g i ∧ sel ws g i ≤ 200 := by
  have := (hg.2 i hi).1
  exact hl.2.2 _ (by omega)
theorem pE_bd {ws g : List Int} {num den : Int} (hl : okLathe ws num den) (hg : okGears ws.length g) : ∀ m, 2 * m ≤ g.length → 1 ≤ pE ws g num m ∧ pE ws g num m ≤ pb m
  | 0, _ => hl.1.2.1
  | m + 1, h => by
    obtain ⟨h1, h2⟩ := pE_bd hl hg m (by omega)
    have h3 := sel_bd hl hg (i := 2 * m) (by omega)
    have h4 := mul_bd h1 h2 h3.1 h3.2
    have h5 := hg.1
    have : m = 0 ∨ m = 1 := by omega
    rcases this with rfl | rfl
    · exact h4
    · exact h4
theorem pO_bd {ws g : List Int} {num den : Int} (hl : okLathe ws num den) (hg : okGears ws.length g) : ∀ m, 2 * m ≤ g.length → 1 ≤ pO ws g den m ∧ pO ws g den m ≤ pb m
  | 0, _ => hl.1.2.2
  | m + 1, h => by
    obtain ⟨h1, h2⟩ := pO_bd hl hg m (by omega)
    have h3 := sel_bd hl hg (i := 2 * m + 1) (by omega)
    have h4 := mul_bd h1 h2 h3.1 h3.2
    have h5 := hg.1
    have : m = 0 ∨ m = 1 := by omega
    rcases this with rfl | rfl
    · exact h4
    · exact h4
theorem pfrom_first {g : List Int} {i : Nat} (hi : i < g.length) : ∀ d m, m + d = i → (pfrom g (nth g i) m = i ↔ ∀ k, m ≤ k → k < i → nth g k ≠ nth g i)
  | 0, m, hm => by
    obtain rfl : m = i := by omega
    rw [pfrom_step hi, if_pos rfl]
    exact ⟨fun _ k h1 h2 => by omega, fun _ => rfl⟩
  | d + 1, m, hm => by
    have ih := pfrom_first hi d (m + 1) (by omega)
    rw [pfrom_step (by omega)]
    by_cases e : nth g m = nth g i
    · rw [if_pos e]
      exact ⟨fun h => by omega, fun h => absurd e (h m (Nat.le_refl _) (by omega))⟩
    · rw [if_neg e, ih]
      refine ⟨fun h k h1 h2 => ?_, fun h k h1 h2 => h k (by omega) h2⟩
      by_cases e2 : k = m
      · rw [e2]; exact e
      · exact h k (by omega) h2
theorem place_first {g : List Int} {i : Nat} (hi : i < g.length) : place g (nth g i) = i ↔ ∀ k, k < i → nth g k ≠ nth g i := by
  unfold place
  rw [pfrom_first hi i 0 (by omega)]
  exact ⟨fun h k h1 => h k (Nat.zero_le _) h1, fun h k _ h1 => h k h1⟩
theorem mem_take {g : List Int} {j : Nat} (h : j < g.length) : nth g j ∈ g.take j ↔ ∃ k, k < j ∧ nth g k = nth g j := by
  rw [mem_nth]
  constructor
  · rintro ⟨m, h2, h3⟩
    rw [List.length_take] at h2
    rw [nth_take (by omega) (by omega)] at h3
    exact ⟨m, by omega, h3⟩
  · rintro ⟨m, h2, h3⟩
    exact ⟨m, by simp; omega, by rw [nth_take h2 (by omega)]; exact h3⟩
theorem isGears_ok (nl ng : Bool) (ws g : List Int) (num den : Int) (hx : ws.length < 2 ^ 62) (hg : g.length < 2 ^ 62) : ans prog O 55 [eL nl ws num den, vs ng g] = some (.bool (decide (okGears ws.length g))) := by
  refine fn_of' pl get55 (oo (by decide)) rfl rfl ?_
  simp +contextual (disch := omega) []
  refine ⟨fun h1 h2 => by have := h2.1; omega, fun h1 => ?_⟩
  refine lp_loop pl (fun k fr σ => ∃ j, j + k = g.length ∧ fr = ⟨[(1, vs ng g), (2, .ptr (some (0, 0))), (15, vs ng g), (16, .int .i64 g.length), (17, .int .i64 j)], []⟩ ∧ σ = (⟨0, 0, .leaf⟩ : AH).push (.cells [vs nl ws, .int .i64 num, .int .i64 den]) ∧
    ∀ i, i < j → (0 ≤ nth g i ∧ nth g i ≤ (ws.length : Int) - 1) ∧ ∀ k, k < i → nth g k ≠ nth g i) ⟨g.length, 0, by omega, rfl, rfl, by simp⟩ ?_
  rintro k _ _ ⟨j, hj, rfl, rfl, hi⟩
  have htk : j < g.length → (g.take j).length < 2 ^ 62 := fun h => by simp; omega
  simp +contextual (disch := omega) [Und, Contains_ok, htk]
  refine ⟨fun hjl => ⟨fun _ _ => by omega, fun h2 hk => ?_, fun h2 h3 h4 => ⟨k - 1, by omega, j + 1, by omega, by omega, fun i hi2 => ?_⟩⟩, fun hjl => ⟨(by omega : g.length = 2 ∨ g.length = 4), fun i h2 => hi i (by omega)⟩⟩
  · obtain ⟨h3, h4⟩ := hk.2 j hjl
    rcases h2 with h2 | h2
    · omega
    · obtain ⟨m, h5, h6⟩ := (mem_take hjl).1 h2
      exact h4 m h5 h6
  · by_cases e : i = j
    · subst e
      exact ⟨⟨h2, h3⟩, fun m h5 h6 => h4 ((mem_take hjl).2 ⟨m, h5, h6⟩)⟩
    · exact hi i (by omega)
theorem areGears_ok (nl ng : Bool) (ws g : List Int) (num den : Int) (hx : ws.length < 2 ^ 62) (hg : g.length < 2 ^ 62) : ans prog O 58 [eL nl ws num den, vs ng g] = some (.bool (decide (okGears ws.length g))) := by
  refine fn_of' pl get58 (oo (by decide)) rfl rfl ?_
  simp +contextual (disch := omega) []
  refine lp_loop pl (fun k fr σ => ∃ j b, j + k = g.length ∧ fr = ⟨[(1, vs ng g), (2, .ptr (some (0, 0))), (5, .bool b), (6, .int .i64 j)], []⟩ ∧ σ = (⟨0, 0, .leaf⟩ : AH).push (.cells [vs nl ws, .int .i64 num, .int .i64 den]) ∧
    (b = true ↔ (g.length = 2 ∨ g.length = 4) ∧ ∀ i, i < j → (0 ≤ nth g i ∧ nth g i ≤ (ws.length : Int) - 1) ∧ ∀ k, k < i → nth g k ≠ nth g i)) ⟨g.length, 0, _, by omega, rfl, rfl, by simp; omega⟩ ?_
  rintro k _ _ ⟨j, b, hj, rfl, rfl, hb⟩
  simp +contextual (disch := omega) [Und, -Bool.exists_bool]
  refine ⟨fun hbt hjl => ⟨k - 1, by omega, j + 1, by omega, _, ⟨rfl, by omega⟩, ?_⟩, fun hjl => ?_⟩
  · obtain ⟨h1, h2⟩ := hb.1 hbt
    simp only [Bool.and_eq_true, decide_eq_true_eq, place_first hjl]
    constructor
    · rintro ⟨h3, h4⟩
      refine ⟨h1, fun i hi => ?_⟩
      by_cases e : i = j
      · subst e; exact ⟨h3, h4⟩
      · exact h2 i (by omega)
    · rintro ⟨_, h3⟩
      exact h3 j (by omega)
  · rw [Bool.eq_iff_iff, hb]
    simp only [decide_eq_true_eq]
    constructor
    · rintro ⟨h1, h2⟩
      have := hjl (hb.2 ⟨h1, h2⟩)
      exact ⟨h1, fun i hi => h2 i (by omega)⟩
    · rintro ⟨h1, h2⟩
      exact ⟨h1, fun i hi => h2 i (by omega)⟩
theorem cuts_ok (nl ng : Bool) (ws g : List Int) (num den : Int) (hl : okLathe ws num den) (hg : okGears ws.length g) : ans prog O 56 [eL nl ws num den, vs ng g] = some (.agg [.int .i64 (pE ws g num (g.length / 2)), .int .i64 (pO ws g den (g.length / 2))]) := by
  refine fn_of' pl get56 (oo (by decide)) rfl rfl ?_
  simp +contextual (disch := omega) []
  have hev := hg.1
  have hlen : (g.length : Int) = 2 * (g.length / 2 : Nat) := by omega
  refine lp_loop pl (fun k fr σ => ∃ m : Nat, m + k = g.length / 2 ∧ fr = ⟨[(1, vs ng g), (2, .ptr (some (0, 0))), (4, .ptr (some (1, 0))), (5, .ptr (some (2, 0))), (6, .int .i64 (2 * m : Nat))], []⟩ ∧ σ.lim = 0 ∧ σ.next = 3 ∧ σ.get 0 = some (.cells [vs nl ws, .int .i64 num, .int .i64 den]) ∧
    σ.get 1 = some (.cells [.int .i64 0, .int .i64 0]) ∧ σ.get 2 = some (.cells [.int .i64 (pE ws g num m), .int .i64 (pO ws g den m)])) ⟨g.length / 2, 0, by omega, rfl, rfl, rfl, by simp, by simp, by simp [pE, pO]⟩ ?_
  rintro k _ σ ⟨m, hm, rfl, hl0, hn, g0, g1, g2⟩
  have t1 : ((2 * m : Nat) : Int).toNat = 2 * m := by omega
  have t2 : (((2 * m : Nat) : Int) + 1).toNat = 2 * m + 1 := by omega
  simp +contextual (disch := omega) [Und, hl0, hn, g0, g1, g2, t1, t2, -Int.natCast_mul]
  refine ⟨fun hml => ?_, fun hml => ?_⟩
  · have s1 := (hg.2 (2 * m) (by omega)).1
    have s2 := (hg.2 (2 * m + 1) (by omega)).1
    have b1 := pE_bd hl hg (m + 1) (by omega)
    have b2 := pO_bd hl hg (m + 1) (by omega)
    have b3 : pb (m + 1) ≤ 40000000 := by
      have : m = 0 ∨ m = 1 := by omega
      rcases this with rfl | rfl <;> simp [pb]
    have e1 : pE ws g num m * nth ws (nth g (2 * m)).toNat = pE ws g num (m + 1) := rfl
    have e2 : pO ws g den m * nth ws (nth g (2 * m + 1)).toNat = pO ws g den (m + 1) := rfl
    refine ⟨by omega, by omega, by omega, k - 1, by omega, m + 1, by omega, by omega, ?_, ?_⟩
    · rw [e1]; exact w64_id _ (by omega) (by omega)
    · rw [e2]; exact w64_id _ (by omega) (by omega)
  · rw [show m = g.length / 2 by omega]; exact ⟨rfl, rfl⟩
theorem pitch_ok (nl ng : Bool) (ws g : List Int) (num den : Int) (hl : okLathe ws num den) (hg : okGears ws.length g) : ans prog O 59 [eL nl ws num den, vs ng g] = some (.tuple [.int .i64 (pE ws g num (g.length / 2)), .int .i64 (pO ws g den (g.length / 2))]) := by
  refine fn_of' pl get59 (oo (by decide)) rfl rfl ?_
  simp +contextual (disch := omega) []
  have hev := hg.1
  refine lp_loop pl (fun k fr σ => ∃ j : Nat, j + k = g.length ∧ fr = ⟨[(1, vs ng g), (2, .ptr (some (0, 0))), (6, .int .i64 (pE ws g num ((j + 1) / 2))), (7, .int .i64 (pO ws g den (j / 2))), (8, .int .i64 j)], []⟩ ∧ σ = (⟨0, 0, .leaf⟩ : AH).push (.cells [vs nl ws, .int .i64 num, .int .i64 den]))
    ⟨g.length, 0, by omega, rfl, rfl⟩ ?_
  rintro k _ _ ⟨j, hj, rfl, rfl⟩
  have hjt : (j : Int).tmod 2 = ((j % 2 : Nat) : Int) := rfl
  simp +contextual (disch := omega) [Und, hjt, -Int.natCast_emod]
  refine ⟨fun hjl => ⟨fun he => ?_, fun he => ?_⟩, fun hjl => by rw [show (j + 1) / 2 = g.length / 2 by omega, show j / 2 = g.length / 2 by omega]; exact ⟨rfl, rfl⟩⟩
  · have s1 := (hg.2 j hjl).1
    obtain ⟨m, rfl⟩ : ∃ m, j = 2 * m := ⟨j / 2, by omega⟩
    have b1 := pE_bd hl hg (m + 1) (by omega)
    have b3 : pb (m + 1) ≤ 40000000 := by
      have : m = 0 ∨ m = 1 := by omega
      rcases this with rfl | rfl <;> simp [pb]
    have e1 : pE ws g num ((2 * m + 1) / 2) * nth ws (nth g (2 * m)).toNat = pE ws g num (m + 1) := by rw [show (2 * m + 1) / 2 = m by omega]; rfl
    refine ⟨by omega, k - 1, by omega, 2 * m + 1, by omega, ?_, ?_, by omega⟩
    · rw [e1, w64_id _ (by omega) (by omega)]; congr 1; omega
    · congr 1; omega
  · have s1 := (hg.2 j hjl).1
    obtain ⟨m, rfl⟩ : ∃ m, j = 2 * m + 1 := ⟨j / 2, by omega⟩
    have b1 := pO_bd hl hg (m + 1) (by omega)
    have b3 : pb (m + 1) ≤ 40000000 := by
      have : m = 0 ∨ m = 1 := by omega
      rcases this with rfl | rfl <;> simp [pb]
    have e1 : pO ws g den ((2 * m + 1) / 2) * nth ws (nth g (2 * m + 1)).toNat = pO ws g den (m + 1) := by rw [show (2 * m + 1) / 2 = m by omega]; rfl
    refine ⟨by omega, k - 1, by omega, 2 * m + 1 + 1, by omega, ?_, ?_, by omega⟩
    · congr 1; omega
    · rw [e1, w64_id _ (by omega) (by omega)]; congr 1; omega
/-- What Pitch answers. -/
def pitchRes (ws g : List Int) (num den : Int) : AV :=
  if okLathe ws num den then (if okGears ws.length g then
    .tuple [.int .i64 ((pE ws g num (g.length / 2)).toNat / Nat.gcd (pE ws g num (g.length / 2)).toNat (pO ws g den (g.length / 2)).toNat : Nat), .int .i64 ((pO ws g den (g.length / 2)).toNat / Nat.gcd (pE ws g num (g.length / 2)).toNat (pO ws g den (g.length / 2)).toNat : Nat), .int .i64 0]
    else .tuple [.int .i64 0, .int .i64 0, .int .i64 22]) else .tuple [.int .i64 0, .int .i64 0, .int .i64 20]
theorem pEO_nat {ws g : List Int} {num den : Int} (hl : okLathe ws num den) (hg : okGears ws.length g) : ∃ x y : Nat, pE ws g num (g.length / 2) = x ∧ pO ws g den (g.length / 2) = y ∧ 1 ≤ x ∧ x ≤ 40000000 ∧ 1 ≤ y ∧ y ≤ 40000000 := by
  have b1 := pE_bd hl hg (g.length / 2) (by omega)
  have b2 := pO_bd hl hg (g.length / 2) (by omega)
  have b3 : pb (g.length / 2) ≤ 40000000 := by
    rcases hg.1 with h | h <;> rw [h] <;> simp [pb]
  exact ⟨(pE ws g num (g.length / 2)).toNat, (pO ws g den (g.length / 2)).toNat, by omega, by omega, by omega, by omega, by omega, by omega⟩
theorem Pitch_ok (nl ng : Bool) (ws g : List Int) (num den : Int) (hx : ws.length < 2 ^ 62) (hgl : g.length < 2 ^ 62) : ans prog O 15 [eL nl ws num den, vs ng g] = some (pitchRes ws g num den) := by
  by_cases hl : okLathe ws num den
  · by_cases hg : okGears ws.length g
    · obtain ⟨x, y, e1, e2, h1, h2, h3, h4⟩ := pEO_nat hl hg
      have hres : pitchRes ws g num den = .tuple [.int .i64 (x / Nat.gcd x y : Nat), .int .i64 (y / Nat.gcd x y : Nat), .int .i64 0] := by
        unfold pitchRes; rw [if_pos hl, if_pos hg, e1, e2, Int.toNat_natCast, Int.toNat_natCast]
      rw [hres]
      have hc := cuts_ok nl ng ws g num den hl hg
      rw [e1, e2] at hc
      have hlow := lowest_ok x y (by omega) (by omega) (by omega)
      refine fn_of' pl get15 (oo (by decide)) rfl rfl ?_
      simp +contextual (disch := omega) [isGears_ok, hl, hg, hc, hlow]
    · have hres : pitchRes ws g num den = .tuple [.int .i64 0, .int .i64 0, .int .i64 22] := by unfold pitchRes; rw [if_pos hl, if_neg hg]
      rw [hres]
      refine fn_of' pl get15 (oo (by decide)) rfl rfl ?_
      simp +contextual (disch := omega) [isGears_ok, hl, hg]
  · have hres : pitchRes ws g num den = .tuple [.int .i64 0, .int .i64 0, .int .i64 20] := by unfold pitchRes; rw [if_neg hl]
    rw [hres]
    refine fn_of' pl get15 (oo (by decide)) rfl rfl ?_
    simp +contextual (disch := omega) [hl]
theorem RefPitch_ok (nl ng : Bool) (ws g : List Int) (num den : Int) (hx : ws.length < 2 ^ 62) (hgl : g.length < 2 ^ 62) : ans prog O 16 [eL nl ws num den, vs ng g] = some (pitchRes ws g num den) := by
  by_cases hl : okLathe ws num den
  · by_cases hg : okGears ws.length g
    · obtain ⟨x, y, e1, e2, h1, h2, h3, h4⟩ := pEO_nat hl hg
      have hres : pitchRes ws g num den = .tuple [.int .i64 (x / Nat.gcd x y : Nat), .int .i64 (y / Nat.gcd x y : Nat), .int .i64 0] := by
        unfold pitchRes; rw [if_pos hl, if_pos hg, e1, e2, Int.toNat_natCast, Int.toNat_natCast]
      rw [hres]
      have hc := pitch_ok nl ng ws g num den hl hg
      rw [e1, e2] at hc
      have hgc := Gcd_ok x y (by omega) (by omega)
      have hgp := Nat.gcd_pos_of_pos_left y (show 0 < x by omega)
      have q1 := Nat.div_le_self x (x.gcd y)
      have q2 := Nat.div_le_self y (x.gcd y)
      have w1 : w64 ((x : Int) / (x.gcd y : Nat)) = ((x / x.gcd y : Nat) : Int) := by
        rw [← Int.natCast_ediv]; generalize x / x.gcd y = q at *; exact w64_id _ (by omega) (by omega)
      have w2 : w64 ((y : Int) / (x.gcd y : Nat)) = ((y / x.gcd y : Nat) : Int) := by
        rw [← Int.natCast_ediv]; generalize y / x.gcd y = q at *; exact w64_id _ (by omega) (by omega)
      have hgz : ¬ x.gcd y = 0 := by omega
      generalize x.gcd y = G at *
      refine fn_of' pl get16 (oo (by decide)) rfl rfl ?_
      simp +contextual (disch := omega) [areGears_ok, hl, hg, hc, hgc, hgz, w1, w2, -Int.natCast_ediv]
    · have hres : pitchRes ws g num den = .tuple [.int .i64 0, .int .i64 0, .int .i64 22] := by unfold pitchRes; rw [if_pos hl, if_neg hg]
      rw [hres]
      refine fn_of' pl get16 (oo (by decide)) rfl rfl ?_
      simp +contextual (disch := omega) [areGears_ok, hl, hg]
  · have hres : pitchRes ws g num den = .tuple [.int .i64 0, .int .i64 0, .int .i64 20] := by unfold pitchRes; rw [if_neg hl]
    rw [hres]
    refine fn_of' pl get16 (oo (by decide)) rfl rfl ?_
    simp +contextual (disch := omega) [hl]
end Go.Oct.Screw
