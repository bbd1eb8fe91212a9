/- Stores: when they are valid; from which lot on there is enough. -/
import Derived.Test.YtddkghgfbhhcdaaGreatDoorOStkFitR
import Derived.Test.YtddkghgfbhhcdaaGreatDoorOT3
set_option maxRecDepth 100000
set_option maxHeartbeats 8000000
set_option linter.unusedVariables false
set_option linter.unusedSimpArgs false
namespace Go.Oct.Stk.Sh
open Go.Oct
/-- A store: what there is at first, and lots (a lot: its day as 'into'). -/
structure St where
  b : Int
  v : Int
  L : List Pc
def before (L : List Pc) (i : Nat) : Int := if i = 0 then 0 else (nth L (i - 1)).into
def okLot (L : List Pc) (i : Nat) : Prop := (before L i ≤ (nth L i).into ∧ (nth L i).into ≤ 100000) ∧ (0 ≤ (nth L i).br ∧ (nth L i).br ≤ 100000) ∧ 0 ≤ (nth L i).iv ∧ (nth L i).iv ≤ 100000
instance (L : List Pc) (i : Nat) : Decidable (okLot L i) := by unfold okLot; infer_instance
def stTo (s : St) (n : Nat) : Prop := (((0 ≤ s.b ∧ s.b ≤ 100000) ∧ 0 ≤ s.v ∧ s.v ≤ 100000) ∧ (s.L.length : Int) ≤ 12) ∧ ∀ i, i < n → okLot s.L i
instance (s : St) (n : Nat) : Decidable (stTo s n) := by unfold stTo; infer_instance
abbrev okSt (s : St) : Prop := stTo s s.L.length
theorem stTo_succ {s : St} {n : Nat} : stTo s (n + 1) ↔ stTo s n ∧ okLot s.L n := by
  unfold stTo
  constructor
  · rintro ⟨h1, h2⟩; exact ⟨⟨h1, fun i hi => h2 i (by omega)⟩, h2 n (by omega)⟩
  · rintro ⟨⟨h1, h2⟩, h3⟩
    refine ⟨h1, fun i hi => ?_⟩
    by_cases e : i = n
    · rw [e]; exact h3
    · exact h2 i (by omega)
theorem before_succ (L : List Pc) (i : Nat) : before L (i + 1) = (nth L i).into := by unfold before; rw [if_neg (by omega), Nat.add_sub_cancel]
@[simp] theorem isStore_ok (n : Bool) (s : St) (hx : s.L.length < 2 ^ 62) : ans prog O 50 [.agg [.int .i64 s.b, .int .i64 s.v, vl ePc n s.L]] = some (.bool (decide (okSt s))) := by
  refine fn_of' pl get50 (oo (by decide)) rfl rfl ?_
  simp (disch := omega) [-Bool.exists_bool]
  refine lp_loop pl (fun k fr σ => ∃ i : Nat, i + k = s.L.length ∧ fr = ⟨[(3, .bool (decide (stTo s i))), (4, .int .i64 (before s.L i)), (22, vl ePc n s.L), (23, .int .i64 s.L.length), (24, .int .i64 i)], []⟩ ∧ σ.lim = 0)
    ⟨s.L.length, 0, by omega, ?_, rfl⟩ ?_
  · simp [stTo, before, Bool.and_assoc]
  rintro k _ σ ⟨i, hi, rfl, hl0⟩
  by_cases hil : i < s.L.length
  · by_cases h : stTo s i
    · simp (disch := omega) [Und, hl0, hil, h, -Bool.exists_bool]
      refine ⟨k - 1, by omega, i + 1, by omega, ⟨?_, (before_succ _ _).symm, by omega⟩⟩
      rw [Bool.eq_iff_iff]
      simp only [Bool.and_eq_true, decide_eq_true_eq, stTo_succ, okLot]
      constructor
      · rintro ⟨⟨h1, h2⟩, h3⟩; exact ⟨h, h1, h2, h3⟩
      · rintro ⟨_, h1, h2, h3⟩; exact ⟨⟨h1, h2⟩, h3⟩
    · have h2 : ¬ stTo s (i + 1) := fun h3 => h (stTo_succ.1 h3).1
      simp (disch := omega) [Und, hl0, hil, h, -Bool.exists_bool]
      exact ⟨k - 1, by omega, i + 1, by omega, ⟨h2, (before_succ _ _).symm, by omega⟩⟩
  · obtain rfl : i = s.L.length := by omega
    simp (disch := omega) [Und, hl0, -Bool.exists_bool]
/-! ### How many lots it takes -/
def am (m : Nat) (x : Pc) : Int := if m = 0 then x.br else x.iv
def fs (m : Nat) (s : St) : Int := if m = 0 then s.b else s.v
/-- What there is with so many lots. -/
def cm (m : Nat) (s : St) : Nat → Int
  | 0 => fs m s
  | k + 1 => cm m s k + am m (nth s.L k)
def kk (m : Nat) (s : St) (w : Int) : Nat := cnt (fun k => decide (cm m s k < w)) (s.L.length + 1)
theorem cm_mono {m : Nat} {s : St} (h : okSt s) : ∀ {a b : Nat}, a ≤ b → b ≤ s.L.length → cm m s a ≤ cm m s b
  | a, 0, hab, _ => by obtain rfl : a = 0 := by omega
                       exact Int.le_refl _
  | a, b + 1, hab, hb => by
    by_cases e : a = b + 1
    · subst e; exact Int.le_refl _
    · have h1 := cm_mono h (m := m) (a := a) (b := b) (by omega) (by omega)
      have h2 := h.2 b (by omega)
      unfold okLot at h2
      simp only [cm]
      have : 0 ≤ am m (nth s.L b) := by unfold am; split <;> omega
      omega
theorem cm_bd {m : Nat} {s : St} (h : okSt s) : ∀ {b : Nat}, b ≤ s.L.length → 0 ≤ cm m s b ∧ cm m s b ≤ 100000 * ((b : Int) + 1)
  | 0, _ => by
    have h1 := h.1.1
    simp only [cm, fs]; split <;> omega
  | b + 1, hb => by
    have h1 := cm_bd h (m := m) (b := b) (by omega)
    have h2 := h.2 b (by omega)
    unfold okLot at h2
    simp only [cm]
    have : 0 ≤ am m (nth s.L b) ∧ am m (nth s.L b) ≤ 100000 := by unfold am; split <;> omega
    omega
theorem cnt_prefix {p : Nat → Bool} : ∀ {n k : Nat}, k ≤ n → (∀ i, i < k → p i = true) → (∀ i, k ≤ i → i < n → p i = false) → cnt p n = k
  | 0, k, hk, _, _ => by simp [cnt]; omega
  | n + 1, k, hk, h1, h2 => by
    simp only [cnt]
    by_cases e : k = n + 1
    · subst e
      rw [cnt_prefix (n := n) (k := n) (Nat.le_refl _) (fun i hi => h1 i (by omega)) (fun i hi hi2 => by omega), h1 n (by omega)]
      rfl
    · rw [cnt_prefix (n := n) (k := k) (by omega) h1 (fun i hi hi2 => h2 i hi (by omega)), h2 n (by omega) (by omega)]
      rfl
/-- So many lots are too few just if they are fewer. -/
theorem kk_iff {m : Nat} {s : St} (h : okSt s) {w : Int} {k : Nat} (hk : k ≤ s.L.length) : cm m s k < w ↔ k < kk m s w := by
  have mono : ∀ i j, i ≤ j → j ≤ s.L.length → cm m s j < w → cm m s i < w := fun i j h1 h2 h3 => by have := cm_mono h (m := m) h1 h2; omega
  -- the first that suffices
  by_cases hx : ∃ i, i ≤ s.L.length ∧ ¬ cm m s i < w
  · obtain ⟨i, h1, h2⟩ := hx
    have : ∃ j, j ≤ i ∧ ¬ cm m s j < w ∧ ∀ q, q < j → cm m s q < w := by
      induction i using Nat.strongRecOn with
      | ind i ih =>
        by_cases hy : ∃ q, q < i ∧ ¬ cm m s q < w
        · obtain ⟨q, q1, q2⟩ := hy
          obtain ⟨j, j1, j2, j3⟩ := ih q q1 (by omega) q2
          exact ⟨j, by omega, j2, j3⟩
        · exact ⟨i, Nat.le_refl _, h2, fun q hq => Decidable.byContradiction fun hc => hy ⟨q, hq, hc⟩⟩
    obtain ⟨j, j1, j2, j3⟩ := this
    have e : kk m s w = j := cnt_prefix (by omega) (fun q hq => decide_eq_true (j3 q hq)) fun q hq hq2 => decide_eq_false fun hc => j2 (mono j q hq (by omega) hc)
    rw [e]
    exact ⟨fun hc => Decidable.byContradiction fun hn => j2 (mono j k (by omega) hk hc), fun hc => j3 k hc⟩
  · have hall : ∀ i, i ≤ s.L.length → cm m s i < w := fun i hi => Decidable.byContradiction fun hc => hx ⟨i, hi, hc⟩
    have e : kk m s w = s.L.length + 1 := cnt_prefix (Nat.le_refl _) (fun q hq => decide_eq_true (hall q (by omega))) fun q hq hq2 => by omega
    rw [e]
    exact ⟨fun _ => by omega, fun _ => hall k hk⟩
theorem kk_mono {m : Nat} {s : St} {w u : Int} (h : w ≤ u) : kk m s w ≤ kk m s u := cnt_mono fun i _ hi => by
  have : cm m s i < w := by simpa using hi
  exact decide_eq_true (by omega)
/-- The day of the last of so many lots (0: none). -/
def dK (s : St) (k : Nat) : Int := if k = 0 then 0 else (nth s.L (k - 1)).into
theorem lot_mono {s : St} (h : okSt s) : ∀ {a b : Nat}, a ≤ b → b < s.L.length → 0 ≤ (nth s.L a).into ∧ (nth s.L a).into ≤ (nth s.L b).into
  | a, 0, hab, hb => by
    obtain rfl : a = 0 := by omega
    have h2 := h.2 0 hb
    unfold okLot before at h2
    simp only [if_true] at h2
    omega
  | a, b + 1, hab, hb => by
    have h2 := h.2 (b + 1) hb
    unfold okLot at h2
    rw [before_succ] at h2
    by_cases e : a = b + 1
    · subst e
      have h1 := lot_mono h (a := b) (b := b) (Nat.le_refl _) (by omega)
      omega
    · have h1 := lot_mono h (a := a) (b := b) (by omega) (by omega)
      omega
theorem dK_bd {s : St} (h : okSt s) {k : Nat} (hk : k ≤ s.L.length) : 0 ≤ dK s k ∧ dK s k ≤ 100000 := by
  unfold dK
  split
  · omega
  · have h1 := lot_mono h (a := k - 1) (b := k - 1) (Nat.le_refl _) (by omega)
    have h2 := h.2 (k - 1) (by omega)
    unfold okLot at h2
    omega
theorem dK_mono {s : St} (h : okSt s) {a b : Nat} (hab : a ≤ b) (hb : b ≤ s.L.length) : dK s a ≤ dK s b := by
  by_cases h0 : a = 0
  · subst h0
    have := (dK_bd h hb).1
    unfold dK at this ⊢
    simpa using this
  · unfold dK
    rw [if_neg h0, if_neg (by omega)]
    exact (lot_mono h (a := a - 1) (b := b - 1) (by omega) (by omega)).2
end Go.Oct.Stk.Sh
