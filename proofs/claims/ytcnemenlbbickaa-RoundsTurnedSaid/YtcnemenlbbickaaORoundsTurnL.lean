/- The theorem of the faces: the law. -/
import Derived.Test.YtcnemenlbbickaaORoundsTurn
import Derived.Test.YtcnemenlbbickaaOT3
set_option maxRecDepth 100000
set_option maxHeartbeats 4000000
set_option linter.unusedVariables false
set_option linter.unusedSimpArgs false
namespace Go.Oct.Rounds
open Go.Oct
@[simp] theorem to_ok (a b : Int) : ans prog O 27 [.int .i64 a, .int .i64 b] = some (.agg [.int .i64 a, .int .i64 b]) := by
  refine fn_of' pl get27 (oo (by decide)) rfl rfl ?_
  simp +contextual (disch := omega) []
theorem dlt_f {a b : Int} (h : b ≤ a) : decide (a < b) = false := by simp; omega
theorem dlt_t {a b : Int} (h : a < b) : decide (a < b) = true := by simp; omega
theorem dle_f {a b : Int} (h : b < a) : decide (a ≤ b) = false := by simp; omega
theorem dle_t {a b : Int} (h : a ≤ b) : decide (a ≤ b) = true := by simp; omega
theorem mn_mirror (W o a b : Int) (n : Nat) (hb : b = a + n) : mnf (lof W (-o)) (-b) n = mnf (lof W o) a n - o := by
  obtain ⟨h1, l, h2, h3, h4⟩ := mnf_spec (lof W o) a n
  obtain ⟨k1, l', k2, k3, k4⟩ := mnf_spec (lof W (-o)) (-b) n
  have a1 := h1 (-l') (by omega) (by omega)
  have a2 := k1 (-l) (by omega) (by omega)
  rw [h4] at a1 ⊢
  rw [k4] at a2 ⊢
  unfold lof at *
  omega
theorem mx_mirror (W o a b : Int) (n : Nat) (hb : b = a + n) : mxf (hif W (-o)) (-b) n = mxf (hif W o) a n - o := by
  obtain ⟨h1, l, h2, h3, h4⟩ := mxf_spec (hif W o) a n
  obtain ⟨k1, l', k2, k3, k4⟩ := mxf_spec (hif W (-o)) (-b) n
  have a1 := h1 (-l') (by omega) (by omega)
  have a2 := k1 (-l) (by omega) (by omega)
  rw [h4] at a1 ⊢
  rw [k4] at a2 ⊢
  unfold hif at *
  omega
theorem offv_one {D T p q W L R : Int} (h1 : (D + T + p - W) % 1296000 = L) (h2 : (D + 648000 - T + q - W) % 1296000 = R) (hT : -100000 ≤ T ∧ T ≤ 100000) (hp : 0 ≤ p ∧ p ≤ 20000) (hq : 0 ≤ q ∧ q ≤ 20000) : offv L R = -2 * T + q - p := by
  have : (R - L + 1944000) % 1296000 = (-2 * T + q - p) % 1296000 := by omega
  unfold offv
  rw [this]
  clear this h1 h2
  split <;> omega
theorem offv_two {o L R L' R' : Int} (h : offv L R = o) (ho : -648000 < o ∧ o < 648000) (h1 : (R + 648000) % 1296000 = L') (h2 : (L + 648000) % 1296000 = R') : offv L' R' = -o := by
  have e : (R - L + 1944000) % 1296000 = o % 1296000 := by
    unfold offv at h
    split at h <;> omega
  have : (R' - L' + 1944000) % 1296000 = (-o) % 1296000 := by omega
  unfold offv
  rw [this]
  clear this h1 h2 e h
  split <;> omega
theorem mod_back {L R L' o : Int} (h : offv L R = o) (h1 : (R + 648000) % 1296000 = L') : (L' - o - L) % 1296000 = 0 := by
  unfold offv at h
  split at h <;> omega
theorem wrap_one {x L : Int} (h : x % 1296000 = L) (hx : -1296000 ≤ x ∧ x < 2592000) : ∃ k : Int, -1 ≤ k ∧ k ≤ 1 ∧ L = x - 1296000 * k := ⟨x / 1296000, by omega, by omega, by omega⟩
theorem lo_le {W M o a b T p q DL l1 : Int} (ho : -2 * T + q - p = o) (hp : 0 ≤ p ∧ p ≤ 2 * W) (hq : 0 ≤ q ∧ q ≤ 2 * W) (h3 : DL ≤ max (-W - T) (o - W + T)) : DL ≤ -T - p + W := by omega
theorem le_hi {W M o a b T p q DH l1 : Int} (ho : -2 * T + q - p = o) (hp : 0 ≤ p ∧ p ≤ 2 * W) (hq : 0 ≤ q ∧ q ≤ 2 * W) (h3 : min (W - T) (o + W + T) ≤ DH) : -T - p + W ≤ DH := by omega
theorem lo_abs {W M o a b DL l1 : Int} (hW : 0 ≤ W) (ha : -M ≤ a) (hb : b ≤ M) (hb2 : 2 * b ≤ 2 * W - o) (h1 : a ≤ l1) (h2 : l1 ≤ b) (h : DL = max (-W - l1) (o - W + l1)) : -(M + W) ≤ DL ∧ DL ≤ M + W ∧ -W - l1 ≤ DL ∧ o - W + l1 ≤ DL := by omega
theorem hi_abs {W M o a b DL l1 : Int} (hW : 0 ≤ W) (ha : -M ≤ a) (hb : b ≤ M) (ha2 : -2 * W - o ≤ 2 * a) (h1 : a ≤ l1) (h2 : l1 ≤ b) (h : DL = min (W - l1) (o + W + l1)) : -(M + W) ≤ DL ∧ DL ≤ M + W ∧ DL ≤ W - l1 ∧ DL ≤ o + W + l1 := by omega
theorem RoundsTurned_ok (L0 R0 W0 M0 n0 n1 f0 f1 : Int) (_ : i64 L0) (_ : i64 R0) (_ : i64 W0) (_ : i64 M0) (_ : i64 n0) (_ : i64 n1) (_ : i64 f0) (_ : i64 f1) :
    ans prog O 6 [.agg [.int .i64 L0, .int .i64 R0, .int .i64 W0, .int .i64 M0], .agg [.int .i64 n0, .int .i64 n1], .agg [.int .i64 f0, .int .i64 f1]] = some (.bool true) := by
  refine fn_of' pl get6 (oo (by decide)) rfl rfl ?_
  obtain ⟨W, hW, hW1, hW2⟩ : ∃ W, W0 % 10001 = W ∧ 0 ≤ W ∧ W ≤ 10000 := ⟨_, rfl, by omega, by omega⟩
  obtain ⟨M, hM, hM1, hM2⟩ : ∃ M, M0 % 100001 = M ∧ 0 ≤ M ∧ M ≤ 100000 := ⟨_, rfl, by omega, by omega⟩
  obtain ⟨D, hD, hD1, hD2⟩ : ∃ D, n0 % 1296000 = D ∧ 0 ≤ D ∧ D ≤ 1295999 := ⟨_, rfl, by omega, by omega⟩
  obtain ⟨t, ht, ht1, ht2⟩ : ∃ t, n1 % (2 * M + 1) = t ∧ 0 ≤ t ∧ t ≤ 2 * M := ⟨_, rfl, Int.emod_nonneg _ (by omega), by have := Int.emod_lt_of_pos n1 (show 0 < 2 * M + 1 by omega); omega⟩
  obtain ⟨p, hp, hp1, hp2⟩ : ∃ t, f0 % (2 * W + 1) = t ∧ 0 ≤ t ∧ t ≤ 2 * W := ⟨_, rfl, Int.emod_nonneg _ (by omega), by have := Int.emod_lt_of_pos f0 (show 0 < 2 * W + 1 by omega); omega⟩
  obtain ⟨q, hq, hq1, hq2⟩ : ∃ t, f1 % (2 * W + 1) = t ∧ 0 ≤ t ∧ t ≤ 2 * W := ⟨_, rfl, Int.emod_nonneg _ (by omega), by have := Int.emod_lt_of_pos f1 (show 0 < 2 * W + 1 by omega); omega⟩
  obtain ⟨L, hL, hL1, hL2⟩ : ∃ L, (D + (t - M) + p - W) % 1296000 = L ∧ 0 ≤ L ∧ L ≤ 1295999 := ⟨_, rfl, by omega, by omega⟩
  obtain ⟨R, hR, hR1, hR2⟩ : ∃ R, (D + 648000 - (t - M) + q - W) % 1296000 = R ∧ 0 ≤ R ∧ R ≤ 1295999 := ⟨_, rfl, by omega, by omega⟩
  obtain ⟨L', hL', hL'1, hL'2⟩ : ∃ L', (R + 648000) % 1296000 = L' ∧ 0 ≤ L' ∧ L' ≤ 1295999 := ⟨_, rfl, by omega, by omega⟩
  obtain ⟨R', hR', hR'1, hR'2⟩ : ∃ R', (L + 648000) % 1296000 = R' ∧ 0 ≤ R' ∧ R' ≤ 1295999 := ⟨_, rfl, by omega, by omega⟩
  have m1 := Mod_ok W0 10001 (by omega) (by omega)
  have m2 := Mod_ok M0 100001 (by omega) (by omega)
  have m3 := Mod_ok n0 1296000 (by omega) (by omega)
  have m4 := Mod_ok n1 (2 * M + 1) (by omega) (by omega)
  have m5 := Mod_ok f0 (2 * W + 1) (by omega) (by omega)
  have m6 := Mod_ok f1 (2 * W + 1) (by omega) (by omega)
  have m7 := Mod_ok (D + (t - M) + p - W) 1296000 (by omega) (by omega)
  have m8 := Mod_ok (D + 648000 - (t - M) + q - W) 1296000 (by omega) (by omega)
  have m9 := Mod_ok (R + 648000) 1296000 (by omega) (by omega)
  have m10 := Mod_ok (L + 648000) 1296000 (by omega) (by omega)
  rw [hW] at m1; rw [hM] at m2; rw [hD] at m3; rw [ht] at m4; rw [hp] at m5; rw [hq] at m6; rw [hL] at m7; rw [hR] at m8; rw [hL'] at m9; rw [hR'] at m10
  have ho1 := offv_one hL hR (by omega) (by omega) (by omega)
  have ho2 := offv_two ho1 (by omega) hL' hR'
  obtain ⟨o, ho⟩ : ∃ o, -2 * (t - M) + q - p = o := ⟨_, rfl⟩
  rw [ho] at ho1 ho2
  have hmod : (L' - o - L) % 1296000 = 0 := mod_back ho1 hL'
  have hin : ∃ k : Int, -1 ≤ k ∧ k ≤ 1 ∧ L = D + (t - M) + p - W - 1296000 * k := wrap_one hL (by omega)
  clear hW hM hD ht hp hq hL hR hL' hR'
  have e1 : la W M (-o) = -lb W M o := by unfold la lb; rw [show 2 * W + -o = 2 * W - o by omega]; omega
  have e2 : lb W M (-o) = -la W M o := by unfold la lb; rw [show 2 * W - -o = 2 * W + o by omega]; omega
  have hla : la W M o ≤ t - M ∧ -M ≤ la W M o ∧ -2 * W - o ≤ 2 * la W M o := by unfold la; omega
  have hlb : t - M ≤ lb W M o ∧ lb W M o ≤ M ∧ 2 * lb W M o ≤ 2 * W - o := by unfold lb; omega
  have F1 := Faces_ok L R W M ⟨⟨hL1, hL2⟩, ⟨hR1, hR2⟩, ⟨hW1, hW2⟩, hM1, hM2⟩ (by rw [ho1]; omega)
  have F2 := Faces_ok L' R' W M ⟨⟨hL'1, hL'2⟩, ⟨hR'1, hR'2⟩, ⟨hW1, hW2⟩, hM1, hM2⟩ (by rw [ho2, e1, e2]; omega)
  rw [ho1] at F1
  rw [ho2, e1, e2] at F2
  clear e1 e2
  generalize la W M o = a at *
  generalize lb W M o = b at *
  obtain ⟨n, hn⟩ : ∃ n : Nat, (b - a).toNat = n := ⟨_, rfl⟩
  have hbn : b = a + n := by omega
  rw [show -a - -b = b - a by omega, hn, mn_mirror W o a b n hbn, mx_mirror W o a b n hbn] at F2
  rw [hn] at F1
  obtain ⟨s1, l1, s2, s3, s4⟩ := mnf_spec (lof W o) a n
  obtain ⟨s5, l2, s6, s7, s8⟩ := mxf_spec (hif W o) a n
  have s1 := s1 (t - M) (by omega) (by omega)
  have s5 := s5 (t - M) (by omega) (by omega)
  generalize mnf (lof W o) a n = DL at *
  generalize mxf (hif W o) a n = DH at *
  unfold lof at s1 s4
  unfold hif at s5 s8
  have c1 := lo_le (M := 0) (a := 0) (b := 0) (l1 := 0) ho ⟨hp1, hp2⟩ ⟨hq1, hq2⟩ s1
  have c2 := le_hi (M := 0) (a := 0) (b := 0) (l1 := 0) ho ⟨hp1, hp2⟩ ⟨hq1, hq2⟩ s5
  obtain ⟨c3, c4, c5, c6⟩ := lo_abs hW1 hla.2.1 hlb.2.1 hlb.2.2 s2 (by omega) s4
  obtain ⟨c7, c8, c9, c10⟩ := hi_abs hW1 hla.2.1 hlb.2.1 hla.2.2 s6 (by omega) s8
  have b3 : DH - DL ≤ 2 * W ∧ DL ≤ DH := by clear s4 s8 s1 s5; omega
  clear s4 s8 s1 s5 s2 s3 s6 s7 c5 c6 c9 c10 hn hbn
  have m11 := Mod_ok (L' + (DL - o) - (L + DL)) 1296000 (by omega) (by omega)
  rw [show (L' + (DL - o) - (L + DL)) % 1296000 = 0 by rw [show L' + (DL - o) - (L + DL) = L' - o - L by omega]; exact hmod] at m11
  unfold span at F1 F2
  simp (disch := omega) [-Mod_ok, m1, m2, m3, m4, m5, m6, m7, m8, m9, m10, m11, F1, F2, Und, dlt_f]
  obtain ⟨k, k1, k2, k3⟩ := hin
  have k4 : k = -1 ∨ k = 0 ∨ k = 1 := by omega
  refine ⟨fun h1 h2 => ?_, fun _ => by omega⟩
  rcases k4 with rfl | rfl | rfl <;> omega
end Go.Oct.Rounds
