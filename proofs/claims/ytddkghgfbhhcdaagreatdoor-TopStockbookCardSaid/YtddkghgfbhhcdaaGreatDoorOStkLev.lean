/- Orders, plain: when they are valid; levels, bounds, the fewest days. -/
import Derived.Test.YtddkghgfbhhcdaaGreatDoorOStkB0
set_option maxRecDepth 100000
set_option maxHeartbeats 2000000
set_option linter.unusedVariables false
set_option linter.unusedSimpArgs false
namespace Go.Oct.Stk.Sh
open Go.Oct
structure Pc where
  into : Int
  br : Int
  iv : Int
  deriving DecidableEq, Inhabited
def ePc (x : Pc) : AV := .agg [.int .i64 x.into, .int .i64 x.br, .int .i64 x.iv]
theorem encPc : Enc ePc 3 := ⟨fun _ => rfl, fun _ => rfl, fun _ => rfl, by decide⟩
@[simp] theorem aidx_pc {nl : Bool} {xs : List Pc} (q : IntKind) (i : Int) : aidx 3 (vl ePc nl xs) (.int q i) = if 0 ≤ i ∧ i < (xs.length : Int) then some (.vptr [.int .i64 (nth xs i.toNat).into, .int .i64 (nth xs i.toNat).br, .int .i64 (nth xs i.toNat).iv] 0) else none :=
  aidx_vl (e := ePc) (fun _ => rfl) q i
def okPc (l : List Pc) (i : Nat) : Prop := ((nth l i).into = -1 ∨ ((i : Int) + 1 ≤ (nth l i).into ∧ (nth l i).into ≤ (l.length : Int) - 1)) ∧ (0 ≤ (nth l i).br ∧ (nth l i).br ≤ 10000) ∧ 0 ≤ (nth l i).iv ∧ (nth l i).iv ≤ 10000
instance (l : List Pc) (i : Nat) : Decidable (okPc l i) := by unfold okPc; infer_instance
def ordTo (l : List Pc) (n : Nat) : Prop := (1 ≤ (l.length : Int) ∧ (l.length : Int) ≤ 12) ∧ ∀ i, i < n → okPc l i
instance (l : List Pc) (n : Nat) : Decidable (ordTo l n) := by unfold ordTo; infer_instance
abbrev okOrd (l : List Pc) : Prop := ordTo l l.length
theorem ordTo_succ {l : List Pc} {n : Nat} : ordTo l (n + 1) ↔ ordTo l n ∧ okPc l n := by
  unfold ordTo
  constructor
  · rintro ⟨h1, h2⟩; exact ⟨⟨h1, fun i hi => h2 i (by omega)⟩, h2 n (by omega)⟩
  · rintro ⟨⟨h1, h2⟩, h3⟩
    refine ⟨h1, fun i hi => ?_⟩
    by_cases e : i = n
    · rw [e]; exact h3
    · exact h2 i (by omega)
/-- Levels. -/
def levF (l : List Pc) : Nat → Nat → Nat
  | 0, _ => 1
  | f + 1, i => if (nth l i).into = -1 then 1 else levF l f (nth l i).into.toNat + 1
def lev (l : List Pc) (i : Nat) : Nat := levF l l.length i
theorem levF_more {l : List Pc} (h : okOrd l) : ∀ (f i g : Nat), i < l.length → l.length ≤ f + i → f ≤ g → levF l f i = levF l g i
  | 0, i, g, hi, hf, _ => by omega
  | f + 1, i, g, hi, hf, hg => by
    obtain ⟨g', rfl⟩ : ∃ g', g = g' + 1 := ⟨g - 1, by omega⟩
    simp only [levF]
    by_cases e : (nth l i).into = -1
    · rw [if_pos e, if_pos e]
    · rw [if_neg e, if_neg e]
      have := ((h.2 i hi).1).resolve_left e
      rw [levF_more h f _ g' (by omega) (by omega) (by omega)]
theorem lev_end {l : List Pc} (h : okOrd l) {i : Nat} (hi : i < l.length) (e : (nth l i).into = -1) : lev l i = 1 := by
  unfold lev
  obtain ⟨g, hg⟩ : ∃ g, l.length = g + 1 := ⟨l.length - 1, by omega⟩
  rw [hg]; simp only [levF]; rw [if_pos e]
theorem lev_into {l : List Pc} (h : okOrd l) {i : Nat} (hi : i < l.length) (e : (nth l i).into ≠ -1) : lev l i = lev l (nth l i).into.toNat + 1 := by
  have := ((h.2 i hi).1).resolve_left e
  unfold lev
  have e1 := levF_more h (l.length - 1) (nth l i).into.toNat l.length (by omega) (by omega) (by omega)
  rw [← e1]
  obtain ⟨g, hg⟩ : ∃ g, l.length = g + 1 := ⟨l.length - 1, by omega⟩
  conv => lhs; rw [hg]
  rw [show l.length - 1 = g by omega]
  simp only [levF]; rw [if_neg e]
theorem into_lt {l : List Pc} (h : okOrd l) {i : Nat} (hi : i < l.length) (e : (nth l i).into ≠ -1) : i < (nth l i).into.toNat ∧ (nth l i).into.toNat < l.length ∧ ((nth l i).into.toNat : Int) = (nth l i).into := by
  have := ((h.2 i hi).1).resolve_left e
  omega
theorem lev_bd {l : List Pc} (h : okOrd l) : ∀ (k i : Nat), i + k + 1 = l.length → 1 ≤ lev l i ∧ lev l i ≤ k + 1
  | k, i, hk => by
    induction k using Nat.strongRecOn generalizing i with
    | ind k ih =>
      by_cases e : (nth l i).into = -1
      · rw [lev_end h (by omega) e]; omega
      · rw [lev_into h (by omega) e]
        have h1 := into_lt h (i := i) (by omega) e
        have h2 := ih (l.length - (nth l i).into.toNat - 1) (by omega) (nth l i).into.toNat (by omega)
        omega
theorem lev_in {l : List Pc} (h : okOrd l) {i : Nat} (hi : i < l.length) : 1 ≤ lev l i ∧ lev l i ≤ 12 := by
  have := lev_bd h (l.length - i - 1) i (by omega)
  have := h.1
  omega
/-- How many have a property. -/
def cnt (p : Nat → Bool) : Nat → Nat
  | 0 => 0
  | n + 1 => cnt p n + if p n then 1 else 0
theorem cnt_le (p : Nat → Bool) : ∀ n, cnt p n ≤ n
  | 0 => Nat.le_refl _
  | n + 1 => by
    have := cnt_le p n
    simp only [cnt]; split <;> omega
theorem cnt_mono {p q : Nat → Bool} : ∀ {n : Nat}, (∀ i, i < n → p i = true → q i = true) → cnt p n ≤ cnt q n
  | 0, _ => Nat.le_refl _
  | n + 1, h => by
    have h1 := cnt_mono (p := p) (q := q) (n := n) fun i hi => h i (by omega)
    have h2 := h n (by omega)
    simp only [cnt]
    cases hp : p n
    · simp; omega
    · rw [h2 hp]; simp; omega
theorem cnt_congr {p q : Nat → Bool} : ∀ {n : Nat}, (∀ i, i < n → p i = q i) → cnt p n = cnt q n
  | 0, _ => rfl
  | n + 1, h => by
    simp only [cnt]
    rw [cnt_congr fun i hi => h i (by omega), h n (by omega)]
/-- Pieces above a level. -/
def above (l : List Pc) (j : Int) : Nat := cnt (fun i => decide (j < (lev l i : Int))) l.length
def bnd (l : List Pc) (men j : Int) : Int := j + ((above l j : Int) + men - 1) / men
def maxTo (f : Nat → Nat) : Nat → Nat
  | 0 => 0
  | n + 1 => max (maxTo f n) (f n)
theorem maxTo_ge (f : Nat → Nat) : ∀ {n i : Nat}, i < n → f i ≤ maxTo f n
  | 0, _, h => by omega
  | n + 1, i, h => by
    simp only [maxTo]
    by_cases e : i = n
    · subst e; omega
    · have := maxTo_ge f (n := n) (i := i) (by omega); omega
theorem maxTo_at (f : Nat → Nat) : ∀ {n : Nat}, 0 < maxTo f n → ∃ i, i < n ∧ f i = maxTo f n
  | 0, h => by simp [maxTo] at h
  | n + 1, h => by
    simp only [maxTo] at h ⊢
    by_cases e : maxTo f n ≤ f n
    · exact ⟨n, by omega, by omega⟩
    · obtain ⟨i, h1, h2⟩ := maxTo_at f (n := n) (by omega)
      exact ⟨i, by omega, by omega⟩
def height (l : List Pc) : Nat := maxTo (lev l) l.length
theorem height_bd {l : List Pc} (h : okOrd l) : 1 ≤ height l ∧ height l ≤ 12 := by
  have h0 := h.1
  have h1 := maxTo_ge (lev l) (n := l.length) (i := 0) (by omega)
  have h2 := lev_in h (i := 0) (by omega)
  refine ⟨by unfold height; omega, ?_⟩
  obtain ⟨i, h3, h4⟩ := maxTo_at (lev l) (n := l.length) (by omega)
  have := lev_in h h3
  unfold height; omega
/-- The greatest bound of so many levels, and the first that has it. -/
def lstTo (l : List Pc) (men : Int) : Nat → Int × Int
  | 0 => (0, 0)
  | j + 1 => if (lstTo l men j).1 < bnd l men j then (bnd l men j, (j : Int)) else lstTo l men j
def lst (l : List Pc) (men : Int) : Int × Int := lstTo l men (height l)
theorem above_le (l : List Pc) (j : Int) : above l j ≤ l.length := cnt_le _ _
theorem bnd_bd {l : List Pc} (h : okOrd l) {men : Int} (hm : 1 ≤ men) {j : Int} (hj : 0 ≤ j) : j ≤ bnd l men j ∧ bnd l men j ≤ j + 12 := by
  have h1 := above_le l j
  have h2 := h.1
  unfold bnd
  have a1 : 0 ≤ ((above l j : Int) + men - 1) / men := Int.ediv_nonneg (by omega) (by omega)
  have a2 : ((above l j : Int) + men - 1) / men ≤ 12 := by
    have : ((above l j : Int) + men - 1) / men < 13 := by
      apply Int.ediv_lt_of_lt_mul (by omega)
      have : 12 * men ≥ 12 := by omega
      omega
    omega
  omega
theorem nodupLe {α : Type} [DecidableEq α] : ∀ {xs ys : List α}, xs.Nodup → xs ⊆ ys → xs.length ≤ ys.length
  | [], _, _, _ => Nat.zero_le _
  | x :: xs, ys, hn, hs => by
    have hn' := List.nodup_cons.1 hn
    have hx : x ∈ ys := hs (List.mem_cons_self ..)
    have h1 := nodupLe (xs := xs) (ys := ys.erase x) hn'.2 fun y hy => by
      have : y ≠ x := fun e => hn'.1 (e ▸ hy)
      exact (List.mem_erase_of_ne this).2 (hs (List.mem_cons_of_mem _ hy))
    rw [List.length_erase_of_mem hx] at h1
    have : 0 < ys.length := List.length_pos_of_mem hx
    rw [List.length_cons]; omega
end Go.Oct.Stk.Sh
