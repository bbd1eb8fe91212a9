/- The theorem of the faces. -/
import Derived.Test.YtcnemenlbbickaaORoundsB0
import Derived.Test.YtcnemenlbbickaaOT4
set_option maxRecDepth 100000
set_option maxHeartbeats 2000000
set_option linter.unusedVariables false
set_option linter.unusedSimpArgs false
namespace Go.Oct.Rounds
open Go.Oct
@[simp] theorem within_ok (n l h : Int) : ans prog O 47 [.int .i64 n, .int .i64 l, .int .i64 h] = some (.bool (decide (l ≤ n ∧ n ≤ h))) := by
  refine fn_of' pl get47 (oo (by decide)) rfl rfl ?_
  simp +contextual (disch := omega) []
@[simp] theorem isDirection_ok (n : Int) : ans prog O 46 [.int .i64 n] = some (.bool (decide (0 ≤ n ∧ n ≤ 1295999))) := by
  refine fn_of' pl get46 (oo (by decide)) rfl rfl ?_
  simp +contextual (disch := omega) []
theorem tmod_ediv {a b : Int} (hb : 0 < b) : (a.tmod b + b).tmod b = a % b ∧ (a - a % b).tdiv b = a / b := by
  have h1 := Int.lt_tmod_of_pos a hb
  have h2 := Int.tmod_lt_of_pos a hb
  have h3 := Int.mul_tdiv_add_tmod a b
  have h4 := Int.mul_add_emod_self_left b (a.tdiv b) (a.tmod b)
  rw [h3] at h4
  have e1 : (a.tmod b + b).tmod b = (a.tmod b + b) % b := Int.tmod_eq_emod_of_nonneg (by omega)
  refine ⟨by rw [e1, Int.add_emod_right, h4], ?_⟩
  have h5 := Int.mul_ediv_add_emod a b
  have : a - a % b = b * (a / b) := by omega
  rw [this, Int.mul_tdiv_cancel_left _ (by omega)]
@[simp] theorem down_ok (a b : Int) (hb : 0 < b) (hb2 : b ≤ 1000000) (ha : -1000000000000 ≤ a) (ha2 : a ≤ 1000000000000) : ans prog O 50 [.int .i64 a, .int .i64 b] = some (.int .i64 (a / b)) := by
  refine fn_of' pl get50 (oo (by decide)) rfl rfl ?_
  have h1 := Int.lt_tmod_of_pos a hb
  have h2 := Int.tmod_lt_of_pos a hb
  obtain ⟨h3, h4⟩ := tmod_ediv (a := a) hb
  have h5 := Int.emod_nonneg a (show b ≠ 0 by omega)
  have h6 := Int.emod_lt_of_pos a hb
  have h7 : -1000000000000 ≤ a / b ∧ a / b ≤ 1000000000000 := by
    constructor
    · rw [Int.le_ediv_iff_mul_le hb]
      omega
    · by_cases h0 : 0 ≤ a
      · have := Int.ediv_le_self b h0; omega
      · have := Int.ediv_neg_of_neg_of_pos (show a < 0 by omega) hb; omega
  simp +contextual (disch := omega) [h3, h4]
  omega
@[simp] theorem up_ok (a b : Int) (hb : 0 < b) (hb2 : b ≤ 1000000) (ha : -1000000000000 ≤ a) (ha2 : a ≤ 1000000000000) : ans prog O 49 [.int .i64 a, .int .i64 b] = some (.int .i64 (-(-a / b))) := by
  refine fn_of' pl get49 (oo (by decide)) rfl rfl ?_
  have h7 : -1000000000000 ≤ -a / b ∧ -a / b ≤ 1000000000000 := by
    constructor
    · rw [Int.le_ediv_iff_mul_le hb]
      omega
    · by_cases h0 : 0 ≤ -a
      · have := Int.ediv_le_self b h0; omega
      · have := Int.ediv_neg_of_neg_of_pos (show -a < 0 by omega) hb; omega
  simp +contextual (disch := omega) []

/-! ### Faces -/
/-- The least, and the greatest, of so many values of a function, from a number on. -/
def mnf (f : Int → Int) (a : Int) : Nat → Int
  | 0 => f a
  | n + 1 => min (mnf f a n) (f (a + (n + 1)))
def mxf (f : Int → Int) (a : Int) : Nat → Int
  | 0 => f a
  | n + 1 => max (mxf f a n) (f (a + (n + 1)))
theorem mnf_spec (f : Int → Int) (a : Int) : ∀ n : Nat, (∀ l, a ≤ l → l ≤ a + n → mnf f a n ≤ f l) ∧ ∃ l, a ≤ l ∧ l ≤ a + n ∧ mnf f a n = f l
  | 0 => ⟨fun l h1 h2 => (show l = a by omega) ▸ Int.le_refl _, a, by omega, by omega, rfl⟩
  | n + 1 => by
    obtain ⟨h1, l, h2, h3, h4⟩ := mnf_spec f a n
    refine ⟨fun k hk hk2 => ?_, ?_⟩
    · by_cases e : k = a + (n + 1)
      · subst e; exact Int.min_le_right ..
      · exact Int.le_trans (Int.min_le_left ..) (h1 k hk (by omega))
    · by_cases h : mnf f a n ≤ f (a + (n + 1))
      · exact ⟨l, h2, by omega, by simp only [mnf]; omega⟩
      · exact ⟨a + (n + 1), by omega, by omega, by simp only [mnf]; omega⟩
theorem mxf_spec (f : Int → Int) (a : Int) : ∀ n : Nat, (∀ l, a ≤ l → l ≤ a + n → f l ≤ mxf f a n) ∧ ∃ l, a ≤ l ∧ l ≤ a + n ∧ mxf f a n = f l
  | 0 => ⟨fun l h1 h2 => (show l = a by omega) ▸ Int.le_refl _, a, by omega, by omega, rfl⟩
  | n + 1 => by
    obtain ⟨h1, l, h2, h3, h4⟩ := mxf_spec f a n
    refine ⟨fun k hk hk2 => ?_, ?_⟩
    · by_cases e : k = a + (n + 1)
      · subst e; exact Int.le_max_right ..
      · exact Int.le_trans (h1 k hk (by omega)) (Int.le_max_left ..)
    · by_cases h : f (a + (n + 1)) ≤ mxf f a n
      · exact ⟨l, h2, by omega, by simp only [mxf]; omega⟩
      · exact ⟨a + (n + 1), by omega, by omega, by simp only [mxf]; omega⟩
def offv (L R : Int) : Int := if (R - L + 1944000) % 1296000 > 648000 then (R - L + 1944000) % 1296000 - 1296000 else (R - L + 1944000) % 1296000
def lof (W o l : Int) : Int := max (-W - l) (o - W + l)
def hif (W o l : Int) : Int := min (W - l) (o + W + l)
def la (W M o : Int) : Int := max (-M) (-((2 * W + o) / 2))
def lb (W M o : Int) : Int := min M ((2 * W - o) / 2)
def okFaces (L R W M : Int) : Prop := (0 ≤ L ∧ L ≤ 1295999) ∧ (0 ≤ R ∧ R ≤ 1295999) ∧ (0 ≤ W ∧ W ≤ 10000) ∧ (0 ≤ M ∧ M ≤ 100000)
def span (a b : Int) : AV := .agg [.int .i64 a, .int .i64 b]
theorem offv_range (L R : Int) : -648000 < offv L R ∧ offv L R ≤ 648000 := by
  unfold offv
  split <;> omega
theorem Faces_ok (L R W M : Int) (h : okFaces L R W M) (hab : la W M (offv L R) ≤ lb W M (offv L R)) : ans prog O 17 [.agg [.int .i64 L, .int .i64 R, .int .i64 W, .int .i64 M]] =
    some (.tuple [span (L + mnf (lof W (offv L R)) (la W M (offv L R)) (lb W M (offv L R) - la W M (offv L R)).toNat) (L + mxf (hif W (offv L R)) (la W M (offv L R)) (lb W M (offv L R) - la W M (offv L R)).toNat),
      span (la W M (offv L R)) (lb W M (offv L R)), .int .i64 0]) := by
  refine fn_of' pl get17 (oo (by decide)) rfl rfl ?_
  obtain ⟨⟨hL1, hL2⟩, ⟨hR1, hR2⟩, ⟨hW1, hW2⟩, ⟨hM1, hM2⟩⟩ := h
  have hm : (R - L + 648000 + 1296000).tmod 1296000 = (R - L + 1944000) % 1296000 := by
    rw [Int.tmod_eq_emod_of_nonneg (by omega)]; congr 1; omega
  have hr := offv_range L R
  simp +contextual (disch := omega) [hL1, hL2, hR1, hR2, hW1, hW2, hM1, hM2, hm]
  generalize ho : offv L R = o at *
  have hn : ∃ n : Nat, lb W M o = la W M o + n := ⟨(lb W M o - la W M o).toNat, by omega⟩
  obtain ⟨n, hn⟩ := hn
  have hnn : (lb W M o - la W M o).toNat = n := by omega
  rw [hnn]
  have hla : la W M o = max (-M) (-((2 * W + o) / 2)) := rfl
  have hlb : lb W M o = min M ((2 * W - o) / 2) := rfl
  generalize hA : la W M o = a at *
  generalize hB : lb W M o = b at *
  refine ⟨fun hc => ?_, fun hc => ?_⟩
  · have e : (R - L + 1944000) % 1296000 - 1296000 = o := by rw [← ho]; unfold offv; rw [if_pos (by omega)]
    rw [e]
    refine lp_loop pl (fun k fr σ => ∃ (j : Nat) (f : Bool) (dl dh l0 l1 : Int), j + k = n + 1 ∧ fr = ⟨[(1, .ptr (some (0, 0))), (2, .ptr (some (1, 0))), (3, .ptr (some (2, 0))), (5, .int .i64 o), (6, .bool f), (7, .int .i64 (a + j))], []⟩ ∧ σ.lim = 0 ∧ σ.next = 3 ∧
      σ.get 0 = some (.cells [.int .i64 L, .int .i64 R, .int .i64 W, .int .i64 M]) ∧ σ.get 1 = some (.cells [.int .i64 dl, .int .i64 dh]) ∧ σ.get 2 = some (.cells [.int .i64 l0, .int .i64 l1]) ∧ (j = 0 → f = false) ∧
      (0 < j → f = true ∧ dl = mnf (lof W o) a (j - 1) ∧ dh = mxf (hif W o) a (j - 1) ∧ l0 = a ∧ l1 = a + j - 1)) ⟨n + 1, 0, false, 0, 0, 0, 0, by omega, by simp; omega, by simp, by simp, by simp, by simp, by simp, by simp, by intro hm; omega⟩ ?_
    rintro k _ σ ⟨j, f, dl, dh, l0, l1, hj, rfl, hl, hnx, g0, g1, g2, h0, h1⟩
    by_cases hj0 : j = 0
    · subst hj0
      obtain rfl := h0 rfl
      clear h0 h1
      simp (disch := omega) [Und, hl, hnx, g0, g1, g2, -Bool.exists_bool]
      refine ⟨fun h2 => ⟨fun h3 => by omega, fun h3 => ?_⟩, by omega⟩
      exact ⟨k - 1, by omega, 1, by omega, true, ⟨rfl, by omega⟩, _, _, ⟨rfl, rfl⟩, _, _, ⟨rfl, rfl⟩, by omega, fun _ => ⟨rfl, rfl, rfl, rfl, by omega⟩⟩
    · obtain ⟨rfl, hd1, hd2, rfl, rfl⟩ := h1 (by omega)
      obtain ⟨m, rfl⟩ : ∃ m, j = m + 1 := ⟨j - 1, by omega⟩
      rw [Nat.add_sub_cancel] at hd1 hd2
      clear h0 h1
      simp (disch := omega) [Und, hl, hnx, g0, g1, g2, -Bool.exists_bool]
      refine ⟨fun h2 => ⟨fun h3 => by omega, fun h3 => ⟨k - 1, by omega, m + 2, by omega, true, ⟨rfl, by omega⟩, _, _, ⟨rfl, rfl⟩, _, _, ⟨rfl, rfl⟩, by omega, fun _ => ⟨rfl, by rw [hd1]; rfl, by rw [hd2]; rfl, rfl, by omega⟩⟩⟩, fun h2 => ?_⟩
      obtain rfl : m = n := by omega
      obtain ⟨_, l, e1, e2, e3⟩ := mnf_spec (lof W o) l0 m
      obtain ⟨_, l', f1, f2, f3⟩ := mxf_spec (hif W o) l0 m
      rw [← hd1] at e3 ⊢
      rw [← hd2] at f3 ⊢
      unfold lof at e3
      unfold hif at f3
      rw [w64_id _ (by omega) (by omega), w64_id _ (by omega) (by omega)]
      refine ⟨rfl, ?_⟩
      rw [show l0 + ((m : Int) + 1) - 1 = b by omega]; rfl
  · have e : (R - L + 1944000) % 1296000 = o := by rw [← ho]; unfold offv; rw [if_neg (by omega)]
    rw [e]
    refine lp_loop pl (fun k fr σ => ∃ (j : Nat) (f : Bool) (dl dh l0 l1 : Int), j + k = n + 1 ∧ fr = ⟨[(1, .ptr (some (0, 0))), (2, .ptr (some (1, 0))), (3, .ptr (some (2, 0))), (5, .int .i64 o), (6, .bool f), (7, .int .i64 (a + j))], []⟩ ∧ σ.lim = 0 ∧ σ.next = 3 ∧
      σ.get 0 = some (.cells [.int .i64 L, .int .i64 R, .int .i64 W, .int .i64 M]) ∧ σ.get 1 = some (.cells [.int .i64 dl, .int .i64 dh]) ∧ σ.get 2 = some (.cells [.int .i64 l0, .int .i64 l1]) ∧ (j = 0 → f = false) ∧
      (0 < j → f = true ∧ dl = mnf (lof W o) a (j - 1) ∧ dh = mxf (hif W o) a (j - 1) ∧ l0 = a ∧ l1 = a + j - 1)) ⟨n + 1, 0, false, 0, 0, 0, 0, by omega, by simp; omega, by simp, by simp, by simp, by simp, by simp, by simp, by intro hm; omega⟩ ?_
    rintro k _ σ ⟨j, f, dl, dh, l0, l1, hj, rfl, hl, hnx, g0, g1, g2, h0, h1⟩
    by_cases hj0 : j = 0
    · subst hj0
      obtain rfl := h0 rfl
      clear h0 h1
      simp (disch := omega) [Und, hl, hnx, g0, g1, g2, -Bool.exists_bool]
      refine ⟨fun h2 => ⟨fun h3 => by omega, fun h3 => ?_⟩, by omega⟩
      exact ⟨k - 1, by omega, 1, by omega, true, ⟨rfl, by omega⟩, _, _, ⟨rfl, rfl⟩, _, _, ⟨rfl, rfl⟩, by omega, fun _ => ⟨rfl, rfl, rfl, rfl, by omega⟩⟩
    · obtain ⟨rfl, hd1, hd2, rfl, rfl⟩ := h1 (by omega)
      obtain ⟨m, rfl⟩ : ∃ m, j = m + 1 := ⟨j - 1, by omega⟩
      rw [Nat.add_sub_cancel] at hd1 hd2
      clear h0 h1
      simp (disch := omega) [Und, hl, hnx, g0, g1, g2, -Bool.exists_bool]
      refine ⟨fun h2 => ⟨fun h3 => by omega, fun h3 => ⟨k - 1, by omega, m + 2, by omega, true, ⟨rfl, by omega⟩, _, _, ⟨rfl, rfl⟩, _, _, ⟨rfl, rfl⟩, by omega, fun _ => ⟨rfl, by rw [hd1]; rfl, by rw [hd2]; rfl, rfl, by omega⟩⟩⟩, fun h2 => ?_⟩
      obtain rfl : m = n := by omega
      obtain ⟨_, l, e1, e2, e3⟩ := mnf_spec (lof W o) l0 m
      obtain ⟨_, l', f1, f2, f3⟩ := mxf_spec (hif W o) l0 m
      rw [← hd1] at e3 ⊢
      rw [← hd2] at f3 ⊢
      unfold lof at e3
      unfold hif at f3
      rw [w64_id _ (by omega) (by omega), w64_id _ (by omega) (by omega)]
      refine ⟨rfl, ?_⟩
      rw [show l0 + ((m : Int) + 1) - 1 = b by omega]; rfl
end Go.Oct.Rounds
