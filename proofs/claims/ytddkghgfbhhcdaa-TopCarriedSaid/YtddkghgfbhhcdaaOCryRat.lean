/- Rates: between the temperatures of a table. -/
import Derived.Test.YtddkghgfbhhcdaaOCryClk
set_option maxRecDepth 100000
set_option maxHeartbeats 1000000
set_option linter.unusedVariables false
set_option linter.unusedSimpArgs false
namespace Go.Oct.Cry
open Go.Oct
@[simp] theorem isNaN_ok (n : Int) : ans prog O 155 [.int .i64 n] = some (.bool false) := by
  refine fn_of' pl get155 (oo (by decide)) rfl rfl ?_
  simp +contextual (disch := omega) []
@[simp] theorem isNaN2_ok (n : Int) : ans prog O 175 [.int .i64 n] = some (.bool false) := by
  refine fn_of' pl get175 (oo (by decide)) rfl rfl ?_
  simp +contextual (disch := omega) []
@[simp] theorem Less_ok (a b : Int) : ans prog O 147 [.int .i64 a, .int .i64 b] = some (.bool (decide (a < b))) := by
  refine fn_of' pl get147 (oo (by decide)) rfl rfl ?_
  simp +contextual (disch := omega) []
theorem aconv_u64 {n : Int} (h : 0 ≤ n) (h2 : n < 9223372036854775808) : aconv .u64 (.int .i64 n) = some (.int .u64 n) := by
  have : wr .u64 n = n := by
    rw [wr_eq]
    simp only [IntKind.wrap]
    rw [if_neg (by simp [IntKind.signed])]
    exact Int.emod_eq_of_lt h (by simp only [IntKind.bits]; omega)
  simp [aconv, this]
theorem shr1_u64 {n : Int} : abin .shr (.int .u64 n) (.int .u64 1) = some (.int .u64 (n / 2)) := by
  have e : n.fdiv (2 ^ (min (1 : Int).toNat IntKind.u64.bits)) = n / 2 := by
    show n.fdiv 2 = n / 2
    exact Int.fdiv_eq_ediv_of_nonneg _ (by omega)
  simp only [abin, e]
  rfl
theorem BinarySearch_ok (nl : Bool) (xs : List Int) (t : Int) (hx : xs.length < 2 ^ 62) (i : Nat) (hi : i ≤ xs.length) (h1 : ∀ j, j < i → nth xs j < t) (h2 : ∀ j, i ≤ j → j < xs.length → t ≤ nth xs j) :
    ans prog O 173 [vs nl xs, .int .i64 t] = some (.tuple [.int .i64 i, .bool (decide (i < xs.length ∧ nth xs i = t))]) := by
  refine fn_of' pl get173 (oo (by decide)) rfl rfl ?_
  simp +contextual (disch := omega) []
  refine lp_loop pl (fun k fr σ => ∃ lo hi' : Nat, lo + k = hi' ∧ lo ≤ i ∧ i ≤ hi' ∧ hi' ≤ xs.length ∧ fr = ⟨[(0, vs nl xs), (1, .int .i64 t), (6, .int .i64 xs.length), (7, .int .i64 lo), (8, .int .i64 hi')], []⟩ ∧ σ = ⟨0, 0, .leaf⟩) ⟨xs.length, 0, xs.length, by omega, by omega, hi, by omega, rfl, rfl⟩ ?_
  rintro k _ _ ⟨lo, hi', e1, e2, e3, e4, rfl, rfl⟩
  simp +contextual (disch := omega) [Und, aconv_u64, shr1_u64]
  have em : ((lo : Int) + hi') / 2 = ((lo + hi') / 2 : Nat) := by omega
  rw [em, Int.toNat_natCast]
  refine ⟨fun h => ⟨⟨by omega, by omega⟩, fun h3 => ⟨hi' - ((lo + hi') / 2 + 1), by omega, (lo + hi') / 2 + 1, ?_, by omega, by omega, by omega, by omega⟩, fun h3 => ⟨(lo + hi') / 2 - lo, by omega, lo, e2, ?_, by omega, rfl, by omega⟩⟩, fun h => ?_⟩
  · rcases Nat.lt_or_ge ((lo + hi') / 2) i with h4 | h4
    · omega
    · have := h2 _ h4 (by omega); omega
  · rcases Nat.lt_or_ge ((lo + hi') / 2) i with h4 | h4
    · have := h1 _ h4; omega
    · omega
  · obtain rfl : lo = i := by omega
    exact ⟨rfl, rfl⟩
theorem floor_of {a b q : Int} (hb : 0 < b) (h1 : b * q ≤ a) (h2 : a < b * q + b) : q = a / b := by
  apply Int.le_antisymm
  · exact Int.le_ediv_of_mul_le hb (by rw [Int.mul_comm]; exact h1)
  · have := Int.ediv_lt_of_lt_mul (a := a) (b := q + 1) hb (by rw [Int.add_mul, Int.mul_comm q b]; omega)
    omega
theorem tdiv_bound {a b : Int} (hb : 0 < b) (h1 : -2000000000 ≤ a) (h2 : a ≤ 2000000000) : -2000000000 ≤ a.tdiv b ∧ a.tdiv b ≤ 2000000000 := by
  have h := Int.natAbs_tdiv_le_natAbs a b
  omega
@[simp] theorem down_ok (a b : Int) (hb : 0 < b) (hb2 : b ≤ 1000) (h1 : -1000000000 ≤ a) (h2 : a ≤ 1000000000) : ans prog O 174 [.int .i64 a, .int .i64 b] = some (.int .i64 (a / b)) := by
  refine fn_of' pl get174 (oo (by decide)) rfl rfl ?_
  simp +contextual (disch := omega) []
  have e1 := Int.mul_tdiv_add_tmod a b
  have e2 := Int.tmod_lt_of_pos a hb
  have e3 := Int.lt_tmod_of_pos a hb
  have e5 := tdiv_bound (a := a) (b := b) hb (by omega) (by omega)
  refine ⟨by omega, fun h => ?_, fun h => ?_⟩
  · rw [w64_id (a.tdiv b) (by omega) (by omega), w64_id _ (by omega) (by omega)]
    exact floor_of hb (by rw [Int.mul_sub]; omega) (by rw [Int.mul_sub]; omega)
  · rw [w64_id _ (by omega) (by omega)]
    exact floor_of hb (by omega) (by omega)
/-! ### Between which temperatures one lies -/
def okT (T : List Int) : Prop := (2 ≤ T.length ∧ T.length ≤ 8) ∧ (∀ i, i < T.length → 0 ≤ nth T i ∧ nth T i ≤ 60) ∧ ∀ i, i + 1 < T.length → nth T i < nth T (i + 1)
theorem okT_of {T : List Int} {R : List Span} {a e : Span} (h : okClk T R a e) : okT T := by
  obtain ⟨⟨h1, _⟩, h2⟩ := h
  refine ⟨by omega, fun i hi => (h2 i hi).1, fun i hi => ?_⟩
  have := (h2 (i + 1) hi).2.1 (by omega)
  simpa using this
theorem okT.lt {T : List Int} (h : okT T) {i j : Nat} (hij : i < j) (hj : j < T.length) : nth T i < nth T j := by
  induction j with
  | zero => omega
  | succ j ih =>
    have h1 := h.2.2 j hj
    by_cases e : i = j
    · subst e; exact h1
    · have := ih (by omega) (by omega); omega
/-- The place before or at a temperature. -/
structure At (T : List Int) (t : Int) (k : Nat) : Prop where
  lt : k < T.length
  le : nth T k ≤ t
  up : nth T k = t ∨ (k + 1 < T.length ∧ t < nth T (k + 1))
theorem at_ex {T : List Int} (h : okT T) {t : Int} (h1 : nth T 0 ≤ t) (h2 : t ≤ nth T (T.length - 1)) : ∃ k, At T t k := by
  have key : ∀ n, n < T.length → (∃ k, At T t k) ∨ nth T n ≤ t := by
    intro n
    induction n with
    | zero => exact fun _ => .inr h1
    | succ n ih =>
      intro hn
      rcases ih (by omega) with h3 | h3
      · exact .inl h3
      · rcases Int.lt_or_le t (nth T (n + 1)) with h4 | h4
        · exact .inl ⟨n, by omega, h3, .inr ⟨hn, h4⟩⟩
        · exact .inr h4
  have h0 := h.1
  rcases key (T.length - 1) (by omega) with h3 | h3
  · exact h3
  · exact ⟨T.length - 1, by omega, h3, .inl (by omega)⟩
/-- The rate there. -/
def rv (T : List Int) (r : Nat → Int) (t : Int) (k : Nat) : Int :=
  if nth T k = t then r k else (r k * ((nth T (k + 1) - nth T k) - (t - nth T k)) + r (k + 1) * (t - nth T k)) / (nth T (k + 1) - nth T k)
theorem mul_bd {a b A B : Int} (h1 : -A ≤ a) (h2 : a ≤ A) (h3 : 0 ≤ b) (h4 : b ≤ B) (hA : 0 ≤ A) : -(A * B) ≤ a * b ∧ a * b ≤ A * B := by
  have e1 := Int.mul_le_mul_of_nonneg_right h2 h3
  have e2 := Int.mul_le_mul_of_nonneg_right h1 h3
  have e3 := Int.mul_le_mul_of_nonneg_left h4 hA
  rw [Int.neg_mul] at e2
  omega
theorem mix_bd {x y w d : Int} (hx : -100000 ≤ x ∧ x ≤ 100000) (hy : -100000 ≤ y ∧ y ≤ 100000) (hd : 0 ≤ d) (hw : d ≤ w) (h60 : w ≤ 60) :
    (-6000000 ≤ x * (w - d) ∧ x * (w - d) ≤ 6000000) ∧ (-6000000 ≤ y * d ∧ y * d ≤ 6000000) := by
  have h1 := mul_bd (a := x) (b := w - d) (A := 100000) (B := 60) hx.1 hx.2 (by omega) (by omega) (by omega)
  have h2 := mul_bd (a := y) (b := d) (A := 100000) (B := 60) hy.1 hy.2 (by omega) (by omega) (by omega)
  omega
@[simp] theorem meth_rate : prog.meth 145 "octant/clock.rate" = some 172 := by kernel_rfl
theorem rate_ok (nT : Bool) (T : List Int) (g : Nat) (c : AV) (r : Nat → Int) (t : Int) (k : Nat) (hs : okT T) (hk : At T t k) (hg : pl.contains g = false) (hc : closed 6 c = true) (hc8 : closed 8 c = true)
    (hr : ∀ i, i < T.length → -100000 ≤ r i ∧ r i ≤ 100000) (hf : ∀ i : Nat, i < T.length → ans prog O g [.int .i64 i, c] = some (.int .i64 (r i))) :
    ans prog O 172 [.agg [vs nT T, .func (.func g) [] [c]], .int .i64 t] = some (.int .i64 (rv T r t k)) := by
  have h1 := hk.lt
  have h2 := hk.le
  have hb := BinarySearch_ok nT T t (by have := hs.1; omega) (if nth T k = t then k else k + 1) (by split <;> omega)
    (fun j hj => by
      by_cases e : nth T k = t
      · rw [if_pos e] at hj
        have := hs.lt hj h1; omega
      · rw [if_neg e] at hj
        by_cases e2 : j = k
        · subst e2; omega
        · have := hs.lt (show j < k by omega) h1; omega)
    (fun j hj hl => by
      by_cases e : nth T k = t
      · rw [if_pos e] at hj
        by_cases e2 : j = k
        · subst e2; omega
        · have := hs.lt (show k < j by omega) hl; omega
      · rw [if_neg e] at hj
        have h3 := hk.up.resolve_left e
        by_cases e2 : j = k + 1
        · subst e2; omega
        · have := hs.lt (show k + 1 < j by omega) hl; omega)
  refine fn_of' pl get172 (oo (by decide)) (by simp [hc]) rfl ?_
  have hg' := hg
  simp at hg'
  by_cases e : nth T k = t
  · rw [if_pos e] at hb
    have hv : rv T r t k = r k := by unfold rv; rw [if_pos e]
    have hfk := hf k h1
    simp +contextual (disch := omega) [hb, e, h1, hv, hg', hc8, hfk]
  · rw [if_neg e] at hb
    obtain ⟨h3, h4⟩ := hk.up.resolve_left e
    have hfk := hf k h1
    have hfk1 : ans prog O g [.int .i64 ((k : Int) + 1), c] = some (.int .i64 (r (k + 1))) := by simpa using hf (k + 1) h3
    have hne : ¬ nth T (k + 1) = t := by omega
    have h8 := hs.1
    have ek : w64 (k : Int) = k := w64_id _ (by omega) (by omega)
    have b1 := hs.2.1 k h1
    have b2 := hs.2.1 (k + 1) h3
    have m := mix_bd (x := r k) (y := r (k + 1)) (w := nth T (k + 1) - nth T k) (d := t - nth T k) (hr k h1) (hr (k + 1) h3) (by omega) (by omega) (by omega)
    have ew : w64 (nth T (k + 1) - nth T k) = nth T (k + 1) - nth T k := w64_id _ (by omega) (by omega)
    have ed : w64 (t - nth T k) = t - nth T k := w64_id _ (by omega) (by omega)
    have e3 : w64 (nth T (k + 1) - nth T k - (t - nth T k)) = nth T (k + 1) - nth T k - (t - nth T k) := w64_id _ (by omega) (by omega)
    have e4 : w64 (r k * (nth T (k + 1) - nth T k - (t - nth T k))) = r k * (nth T (k + 1) - nth T k - (t - nth T k)) := w64_id _ (by omega) (by omega)
    have e5 : w64 (r (k + 1) * (t - nth T k)) = r (k + 1) * (t - nth T k) := w64_id _ (by omega) (by omega)
    have hq := down_ok (r k * (nth T (k + 1) - nth T k - (t - nth T k)) + r (k + 1) * (t - nth T k)) (nth T (k + 1) - nth T k) (by omega) (by omega) (by omega) (by omega)
    have e6 : w64 (r k * (nth T (k + 1) - nth T k - (t - nth T k)) + r (k + 1) * (t - nth T k)) = r k * (nth T (k + 1) - nth T k - (t - nth T k)) + r (k + 1) * (t - nth T k) := w64_id _ (by omega) (by omega)
    have hv : rv T r t k = (r k * (nth T (k + 1) - nth T k - (t - nth T k)) + r (k + 1) * (t - nth T k)) / (nth T (k + 1) - nth T k) := by unfold rv; rw [if_neg e]
    simp +contextual (disch := omega) [hb, hne, hg', hc8, hfk, hfk1, ek]
    exact ⟨by omega, h1, hv.symm⟩
/-! ### The other side -/
end Go.Oct.Cry
