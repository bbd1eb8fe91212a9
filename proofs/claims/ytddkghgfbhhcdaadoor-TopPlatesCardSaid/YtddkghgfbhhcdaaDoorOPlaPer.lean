/- Periods. -/
import Derived.Test.YtddkghgfbhhcdaaDoorOPlaB0
import Derived.Test.YtddkghgfbhhcdaaDoorOT3
set_option maxRecDepth 100000
set_option linter.unusedVariables false
set_option linter.unusedSimpArgs false
namespace Go.Oct.Pla
open Go.Oct
@[simp] theorem within_ok (n l h : Int) : ans prog O 44 [.int .i64 n, .int .i64 l, .int .i64 h] = some (.bool (decide (l ≤ n ∧ n ≤ h))) := by
  refine fn_of' pl get44 (oo (by decide)) rfl rfl ?_
  simp +contextual (disch := omega) []
def okSpan (s : Span) : Prop := -1000000 ≤ s.lo ∧ s.lo ≤ s.hi ∧ s.hi ≤ 1000000
instance (s : Span) : Decidable (okSpan s) := by unfold okSpan; infer_instance
def okSpans (l : List Span) : Prop := (1 ≤ l.length ∧ l.length ≤ 64) ∧ ∀ i, i < l.length → okSpan (nth l i)
instance (l : List Span) : Decidable (okSpans l) := by unfold okSpans; infer_instance
/-- Is p a period: can spans be alike whose places differ by a multiple of it? -/
def isPer (l : List Span) (p : Nat) : Prop := ∀ i, i < l.length → ∀ k, k < l.length → i % p = k % p → (nth l i).lo ≤ (nth l k).hi
instance (l : List Span) (p : Nat) : Decidable (isPer l p) := by unfold isPer; infer_instance
def pers (l : List Span) (n : Nat) : List Int := ((List.range n).filter fun p => isPer l (p + 1)).map fun p => ((p + 1 : Nat) : Int)
theorem pers_succ (l : List Span) (n : Nat) : pers l (n + 1) = pers l n ++ if isPer l (n + 1) then [((n + 1 : Nat) : Int)] else [] := by
  unfold pers
  rw [List.range_succ, List.filter_append, List.map_append]
  by_cases h : isPer l (n + 1) <;> simp [h]
theorem pers_le (l : List Span) (n : Nat) : (pers l n).length ≤ n := by
  unfold pers
  rw [List.length_map]
  exact Nat.le_trans (List.length_filter_le _ _) (by simp)
def perRes (l : List Span) : AV := if okSpans l then .tuple [vs (pers l l.length).isEmpty (pers l l.length), .int .i64 0] else .tuple [.vsl true [], .int .i64 25]
theorem mod_between {k k' p i : Nat} (h : k % p = i) (h1 : k < k') (h2 : k' < k + p) : k' % p ≠ i := by
  intro h3
  have e1 := Nat.div_add_mod k p
  have e2 := Nat.div_add_mod k' p
  rw [h] at e1; rw [h3] at e2
  have hd : p * (k / p) < p * (k' / p) := by omega
  have hd2 : k / p < k' / p := Nat.lt_of_mul_lt_mul_left hd
  have := Nat.mul_le_mul_left p hd2
  rw [Nat.mul_succ] at this
  omega
/-- What is known of the greatest low end and the least high one, of the spans of a class before k. -/
structure Tight (l : List Span) (p i k : Nat) (lo hi : Int) : Prop where
  all : ∀ a, a < k → a < l.length → a % p = i → (nth l a).lo ≤ lo ∧ hi ≤ (nth l a).hi
  lo : lo = -1000000 ∨ ∃ a, a < l.length ∧ a % p = i ∧ lo = (nth l a).lo
  hi : hi = 1000000 ∨ ∃ a, a < l.length ∧ a % p = i ∧ hi = (nth l a).hi
theorem Tight.step {l : List Span} {p i k : Nat} {lo hi : Int} (h : Tight l p i k lo hi) (hk : k < l.length) (hm : k % p = i) : Tight l p i (k + p) (max lo (nth l k).lo) (min hi (nth l k).hi) where
  all a h1 h2 h3 := by
    by_cases hlt : a < k
    · have := h.all a hlt h2 h3
      omega
    · by_cases he : a = k
      · subst he; omega
      · exact absurd h3 (mod_between hm (by omega) h1)
  lo := by
    by_cases hh : lo ≤ (nth l k).lo
    · exact .inr ⟨k, hk, hm, by omega⟩
    · rcases h.lo with h | ⟨a, h1, h2, h3⟩
      · exact .inl (by omega)
      · exact .inr ⟨a, h1, h2, by omega⟩
  hi := by
    by_cases hh : (nth l k).hi ≤ hi
    · exact .inr ⟨k, hk, hm, by omega⟩
    · rcases h.hi with h | ⟨a, h1, h2, h3⟩
      · exact .inl (by omega)
      · exact .inr ⟨a, h1, h2, by omega⟩
theorem Tight.done {l : List Span} {p i k : Nat} {lo hi : Int} (h : Tight l p i k lo hi) (hk : l.length ≤ k) (hl : ∀ i, i < l.length → okSpan (nth l i)) : lo ≤ hi ↔ ∀ a, a < l.length → a % p = i → ∀ b, b < l.length → b % p = i → (nth l a).lo ≤ (nth l b).hi := by
  constructor
  · intro hh a h1 h2 b h3 h4
    have e1 := h.all a (by omega) h1 h2
    have e2 := h.all b (by omega) h3 h4
    omega
  · intro hh
    rcases h.lo with e | ⟨a, h1, h2, e⟩
    · rcases h.hi with f | ⟨b, h3, h4, f⟩
      · omega
      · have := hl b h3; unfold okSpan at this; omega
    · rcases h.hi with f | ⟨b, h3, h4, f⟩
      · have := hl a h1; unfold okSpan at this; omega
      · rw [e, f]; exact hh a h1 h2 b h3 h4
end Go.Oct.Pla
