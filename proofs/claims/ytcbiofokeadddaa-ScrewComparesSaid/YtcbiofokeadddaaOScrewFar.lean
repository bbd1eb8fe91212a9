/- By how much each can be greater than each other one: the law of the shortest ways, without the program. -/
import Derived.Test.YtcbiofokeadddaaOScrewFoundW
set_option maxRecDepth 100000
set_option maxHeartbeats 4000000
set_option linter.unusedVariables false
set_option linter.unusedSimpArgs false
namespace Go.Oct.Screw
open Go.Oct
abbrev Mat := Nat → Nat → Int
def upd (D : Mat) (a b : Nat) (v : Int) : Mat := fun i j => if i = a ∧ j = b then v else D i j
def fstep (D : Mat) (c a b : Nat) : Mat := upd D a b (min (D a b) (w64 (D a c + D c b)))
def frow (c a : Nat) : Nat → Mat → Mat
  | 0, D => D
  | n + 1, D => fstep (frow c a n D) c a n
def fmat (N c : Nat) : Nat → Mat → Mat
  | 0, D => D
  | n + 1, D => frow c n N (fmat N c n D)
def fw (N : Nat) : Nat → Mat → Mat
  | 0, D => D
  | n + 1, D => fmat N n N (fw N n D)
theorem fstep_le (D : Mat) (c a b i j : Nat) : fstep D c a b i j ≤ D i j := by
  unfold fstep upd
  split
  · rename_i h; rw [h.1, h.2]; exact Int.min_le_left ..
  · exact Int.le_refl _
theorem frow_le (c a i j : Nat) : ∀ (n : Nat) (D : Mat), frow c a n D i j ≤ D i j
  | 0, D => Int.le_refl _
  | n + 1, D => Int.le_trans (fstep_le ..) (frow_le c a i j n D)
theorem fmat_le (N c i j : Nat) : ∀ (n : Nat) (D : Mat), fmat N c n D i j ≤ D i j
  | 0, D => Int.le_refl _
  | n + 1, D => Int.le_trans (frow_le ..) (fmat_le N c i j n D)
theorem fw_le (N i j : Nat) : ∀ (n : Nat) (D : Mat), fw N n D i j ≤ D i j
  | 0, D => Int.le_refl _
  | n + 1, D => Int.le_trans (fmat_le ..) (fw_le N i j n D)
/-- What can be: numbers whose differences are within the bounds. -/
def Pot (N : Nat) (W : Mat) (y : Nat → Int) : Prop := ∀ a b, a < N → b < N → y a - y b ≤ W a b
def pw (n : Nat) : Int := ((500000 * 2 ^ n : Nat) : Int)
theorem pw_succ (n : Nat) : pw (n + 1) = 2 * pw n := by
  unfold pw
  rw [Nat.pow_succ]; omega
theorem pw_le {n : Nat} (h : n ≤ 33) : 500000 ≤ pw n ∧ pw n ≤ 4294967296000000 := by
  unfold pw
  have h1 : 2 ^ n ≤ 2 ^ 33 := Nat.pow_le_pow_right (by omega) h
  have h2 : 1 ≤ 2 ^ n := Nat.one_le_two_pow
  generalize 2 ^ n = m at *
  simp at h1
  omega
/-- The bounds when the ways over the nodes below n are known. -/
structure Known' (N n : Nat) (W D : Mat) : Prop where
  diag : ∀ a, a < N → 0 ≤ D a a
  bnd : ∀ a b, a < N → b < N → -pw n ≤ D a b ∧ D a b ≤ 500000
  snd : ∀ y, Pot N W y → ∀ a b, a < N → b < N → y a - y b ≤ D a b
  tri : ∀ c, c < n → ∀ a b, a < N → b < N → D a b ≤ D a c + D c b
theorem frow_eq {N n : Nat} {W D0 : Mat} (hN : N ≤ 33) (hn : n < N) (h : Known' N n W D0) {a : Nat} (ha : a < N) {D : Mat} (hD : ∀ i j, D i j = if i < a ∧ j < N then min (D0 i j) (D0 i n + D0 n j) else D0 i j) : ∀ m, m ≤ N →
    ∀ i j, frow n a m D i j = if (i < a ∧ j < N) ∨ (i = a ∧ j < m) then min (D0 i j) (D0 i n + D0 n j) else D0 i j
  | 0, _, i, j => by
    show D i j = _
    rw [hD]
    simp
  | m + 1, hm, i, j => by
    have ih := frow_eq hN hn h ha hD m (by omega)
    have hnn := h.diag n hn
    have hp := (pw_le (n := n) (by omega)).2
    have b1 := h.bnd a n ha hn
    have b2 := h.bnd n m hn (by omega)
    have e1 : frow n a m D a m = D0 a m := by rw [ih, if_neg (by omega)]
    have e2 : frow n a m D a n = D0 a n := by
      rw [ih]
      split
      · omega
      · rfl
    have e3 : frow n a m D n m = D0 n m := by
      rw [ih]
      split
      · omega
      · rfl
    show fstep (frow n a m D) n a m i j = _
    unfold fstep upd
    rw [e1, e2, e3, w64_id _ (by omega) (by omega)]
    by_cases hij : i = a ∧ j = m
    · obtain ⟨rfl, rfl⟩ := hij
      rw [if_pos ⟨rfl, rfl⟩, if_pos (.inr ⟨rfl, by omega⟩)]
    · rw [if_neg hij, ih]
      by_cases hc : (i < a ∧ j < N) ∨ (i = a ∧ j < m)
      · rw [if_pos hc, if_pos (by omega)]
      · rw [if_neg hc, if_neg (by omega)]
theorem fmat_eq {N n : Nat} {W D0 : Mat} (hN : N ≤ 33) (hn : n < N) (h : Known' N n W D0) : ∀ m, m ≤ N → ∀ i j, fmat N n m D0 i j = if i < m ∧ j < N then min (D0 i j) (D0 i n + D0 n j) else D0 i j
  | 0, _, i, j => by simp [fmat]
  | m + 1, hm, i, j => by
    show frow n m N (fmat N n m D0) i j = _
    rw [frow_eq hN hn h (by omega) (fmat_eq hN hn h m (by omega)) N (Nat.le_refl _)]
    by_cases hc : i < m + 1 ∧ j < N
    · rw [if_pos (by omega), if_pos hc]
    · rw [if_neg (by omega), if_neg hc]
theorem fw_known {N : Nat} {W : Mat} (hN : N ≤ 33) (hW : ∀ a b, a < N → b < N → -500000 ≤ W a b ∧ W a b ≤ 500000) : ∀ n, n ≤ N → (∃ a, a < N ∧ fw N n W a a < 0 ∧ ∀ y, ¬ Pot N W y) ∨ Known' N n W (fw N n W)
  | 0, _ => by
    by_cases hd : ∃ a, a < N ∧ W a a < 0
    · obtain ⟨a, h1, h2⟩ := hd
      exact .inl ⟨a, h1, h2, fun y hy => by have := hy a a h1 h1; omega⟩
    · refine .inr ⟨fun a ha => ?_, fun a b ha hb => ?_, fun y hy a b ha hb => hy a b ha hb, fun c hc => by omega⟩
      · refine Int.not_lt.1 fun h => hd ⟨a, ha, h⟩
      · have := hW a b ha hb
        have h0 : pw 0 = 500000 := by unfold pw; simp
        show -pw 0 ≤ W a b ∧ W a b ≤ 500000
        rw [h0]; omega
  | n + 1, hn => by
    rcases fw_known hN hW n (by omega) with ⟨a, h1, h2, h3⟩ | hk
    · exact .inl ⟨a, h1, Int.lt_of_le_of_lt (fmat_le N n a a N (fw N n W)) h2, h3⟩
    · have hf : ∀ i j, i < N → j < N → fw N (n + 1) W i j = min (fw N n W i j) (fw N n W i n + fw N n W n j) := fun i j hi hj => by
        show fmat N n N (fw N n W) i j = _
        rw [fmat_eq hN (by omega) hk N (Nat.le_refl _), if_pos ⟨hi, hj⟩]
      generalize fw N n W = D at *
      generalize fw N (n + 1) W = D' at *
      have hnN : n < N := by omega
      have snd : ∀ y, Pot N W y → ∀ a b, a < N → b < N → y a - y b ≤ D' a b := fun y hy a b ha hb => by
        have s1 := hk.snd y hy a b ha hb
        have s2 := hk.snd y hy a n ha hnN
        have s3 := hk.snd y hy n b hnN hb
        rw [hf a b ha hb]; omega
      by_cases hd : ∃ a, a < N ∧ D' a a < 0
      · obtain ⟨a, h1, h2⟩ := hd
        exact .inl ⟨a, h1, h2, fun y hy => by have := snd y hy a a h1 h1; omega⟩
      · refine .inr ⟨fun a ha => Int.not_lt.1 fun h => hd ⟨a, ha, h⟩, fun a b ha hb => ?_, snd, fun c hc a b ha hb => ?_⟩
        · have s1 := hk.bnd a b ha hb
          have s2 := hk.bnd a n ha hnN
          have s3 := hk.bnd n b hnN hb
          rw [hf a b ha hb, pw_succ]
          have := (pw_le (n := n) (by omega)).1
          omega
        · have d := hk.diag n hnN
          have hcN : c < N := by omega
          rw [hf a b ha hb, hf a c ha hcN, hf c b hcN hb]
          by_cases e : c = n
          · subst e; omega
          · have t1 := hk.tri c (by omega) a b ha hb
            have t2 := hk.tri c (by omega) a n ha hnN
            have t3 := hk.tri c (by omega) n b hnN hb
            have t4 := hk.tri c (by omega) n n hnN hnN
            omega
/-- What the bounds are at last. -/
theorem fw_spec {N : Nat} {W : Mat} (hN : N ≤ 33) (hW : ∀ a b, a < N → b < N → -500000 ≤ W a b ∧ W a b ≤ 500000) :
    ((∃ a, a < N ∧ fw N N W a a < 0) → ∀ y, ¬ Pot N W y) ∧
    ((∀ a, a < N → 0 ≤ fw N N W a a) → (∀ a b c, a < N → b < N → c < N → fw N N W a b ≤ fw N N W a c + fw N N W c b) ∧ (∀ a b, a < N → b < N → -4294967296000000 ≤ fw N N W a b ∧ fw N N W a b ≤ W a b) ∧ ∀ y, Pot N W y → ∀ a b, a < N → b < N → y a - y b ≤ fw N N W a b) := by
  rcases fw_known hN hW N (Nat.le_refl _) with ⟨a, h1, h2, h3⟩ | hk
  · exact ⟨fun _ => h3, fun h => by have := h a h1; omega⟩
  · refine ⟨fun ⟨a, h1, h2⟩ => by have := hk.diag a h1; omega, fun _ => ⟨fun a b c ha hb hc => hk.tri c hc a b ha hb, fun a b ha hb => ⟨?_, fw_le N a b N W⟩, hk.snd⟩⟩
    have := (hk.bnd a b ha hb).1
    have := (pw_le hN).2
    omega
end Go.Oct.Screw
