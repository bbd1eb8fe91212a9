/- Periods. -/
import Derived.Test.YtcbiofokeadddaaOScrewB0
import Derived.Test.YtcbiofokeadddaaOT3
set_option maxRecDepth 100000
set_option linter.unusedVariables false
set_option linter.unusedSimpArgs false
namespace Go.Oct.Screw
open Go.Oct
@[simp] theorem within_ok (n l h : Int) : ans prog O 61 [.int .i64 n, .int .i64 l, .int .i64 h] = some (.bool (decide (l ≤ n ∧ n ≤ h))) := by
  refine fn_of' pl get61 (oo (by decide)) rfl rfl ?_
  simp +contextual (disch := omega) []
def okSpan (s : Span) : Prop := -1000000 ≤ s.lo ∧ s.lo ≤ s.hi ∧ s.hi ≤ 1000000
instance (s : Span) : Decidable (okSpan s) := by unfold okSpan; infer_instance
def okSpans (l : List Span) : Prop := (1 ≤ l.length ∧ l.length ≤ 64) ∧ ∀ i, i < l.length → okSpan (nth l i)
instance (l : List Span) : Decidable (okSpans l) := by unfold okSpans; infer_instance
/-- Is p a period: can spans be alike whose places differ by a multiple of it? -/
def isPer (l : List Span) (p : Nat) : Prop := ∀ i, i < l.length → ∀ k, k < l.length → i % p = k % p → (nth l i).lo ≤ (nth l k).hi
instance (l : List Span) (p : Nat) : Decidable (isPer l p) := by unfold isPer; infer_instance
def pers (l : List Span) (n : Nat) : List Int := ((List.range n).filter fun p => isPer l (p + 1)).map fun p => ((p + 1 : Nat) : Int)
theorem pers_succ (l : List Span) (n : Nat) : pers l (n + 1) = pers l n ++ if isPer l (n + 1) then [((n + 1 : Nat) : Int)] else [] := by
  unfold pers
  rw [List.range_succ, List.filter_append, List.map_append]
  by_cases h : isPer l (n + 1) <;> simp [h]
theorem pers_le (l : List Span) (n : Nat) : (pers l n).length ≤ n := by
  unfold pers
  rw [List.length_map]
  exact Nat.le_trans (List.length_filter_le _ _) (by simp)
def perRes (l : List Span) : AV := if okSpans l then .tuple [vs (pers l l.length).isEmpty (pers l l.length), .int .i64 0] else .tuple [.vsl true [], .int .i64 25]
theorem mod_between {k k' p i : Nat} (h : k % p = i) (h1 : k < k') (h2 : k' < k + p) : k' % p ≠ i := by
  intro h3
  have e1 := Nat.div_add_mod k p
  have e2 := Nat.div_add_mod k' p
  rw [h] at e1; rw [h3] at e2
  have hd : p * (k / p) < p * (k' / p) := by omega
  have hd2 : k / p < k' / p := Nat.lt_of_mul_lt_mul_left hd
  have := Nat.mul_le_mul_left p hd2
  rw [Nat.mul_succ] at this
  omega
/-- What is known of the greatest low end and the least high one, of the spans of a class before k. -/
structure Tight (l : List Span) (p i k : Nat) (lo hi : Int) : Prop where
  all : ∀ a, a < k → a < l.length → a % p = i → (nth l a).lo ≤ lo ∧ hi ≤ (nth l a).hi
  lo : lo = -1000000 ∨ ∃ a, a < l.length ∧ a % p = i ∧ lo = (nth l a).lo
  hi : hi = 1000000 ∨ ∃ a, a < l.length ∧ a % p = i ∧ hi = (nth l a).hi
theorem Tight.step {l : List Span} {p i k : Nat} {lo hi : Int} (h : Tight l p i k lo hi) (hk : k < l.length) (hm : k % p = i) : Tight l p i (k + p) (max lo (nth l k).lo) (min hi (nth l k).hi) where
  all a h1 h2 h3 := by
    by_cases hlt : a < k
    · have := h.all a hlt h2 h3
      omega
    · by_cases he : a = k
      · subst he; omega
      · exact absurd h3 (mod_between hm (by omega) h1)
  lo := by
    by_cases hh : lo ≤ (nth l k).lo
    · exact .inr ⟨k, hk, hm, by omega⟩
    · rcases h.lo with h | ⟨a, h1, h2, h3⟩
      · exact .inl (by omega)
      · exact .inr ⟨a, h1, h2, by omega⟩
  hi := by
    by_cases hh : (nth l k).hi ≤ hi
    · exact .inr ⟨k, hk, hm, by omega⟩
    · rcases h.hi with h | ⟨a, h1, h2, h3⟩
      · exact .inl (by omega)
      · exact .inr ⟨a, h1, h2, by omega⟩
theorem Tight.done {l : List Span} {p i k : Nat} {lo hi : Int} (h : Tight l p i k lo hi) (hk : l.length ≤ k) (hl : ∀ i, i < l.length → okSpan (nth l i)) : lo ≤ hi ↔ ∀ a, a < l.length → a % p = i → ∀ b, b < l.length → b % p = i → (nth l a).lo ≤ (nth l b).hi := by
  constructor
  · intro hh a h1 h2 b h3 h4
    have e1 := h.all a (by omega) h1 h2
    have e2 := h.all b (by omega) h3 h4
    omega
  · intro hh
    rcases h.lo with e | ⟨a, h1, h2, e⟩
    · rcases h.hi with f | ⟨b, h3, h4, f⟩
      · omega
      · have := hl b h3; unfold okSpan at this; omega
    · rcases h.hi with f | ⟨b, h3, h4, f⟩
      · have := hl a h1; unfold okSpan at this; omega
      · rw [e, f]; exact hh a h1 h2 b h3 h4
theorem Periods_ok (nl : Bool) (l : List Span) (hl : l.length < 2 ^ 62) : ans prog O 36 [vl eSpan nl l] = some (perRes l) := by
  refine fn_of' pl get36 (oo (by decide)) rfl rfl ?_
  simp +contextual (disch := omega) []
  refine ⟨fun h => ?_, fun h1 => ?_⟩
  · unfold perRes
    rw [if_neg (by unfold okSpans; omega)]
  refine lp_loop pl (fun k fr σ => ∃ j, j + k = l.length ∧ fr = ⟨[(0, vl eSpan nl l), (16, vl eSpan nl l), (17, .int .i64 l.length), (18, .int .i64 j)], []⟩ ∧ σ.lim = 0 ∧ ∀ i, i < j → okSpan (nth l i)) ⟨l.length, 0, by simp⟩ ?_
  rintro k _ σ ⟨j, hj, rfl, hσ, hok⟩
  simp +contextual (disch := omega) [Und, hσ]
  refine ⟨fun hjl => ⟨fun hb => ?_, fun a1 a2 a3 => ⟨k - 1, by omega, j + 1, by omega, by omega, fun i hi => ?_⟩⟩, fun hjl => ?_⟩
  · have hno : ¬ okSpan (nth l j) := by unfold okSpan; omega
    unfold perRes
    rw [if_neg (fun hh => hno (hh.2 j hjl))]
  · by_cases e : i = j
    · subst e; exact ⟨a1, a2, a3⟩
    · exact hok i (by omega)
  have hok' : ∀ i, i < l.length → okSpan (nth l i) := fun i hi => hok i (by omega)
  have hres : perRes l = .tuple [vs (pers l l.length).isEmpty (pers l l.length), .int .i64 0] := by
    unfold perRes
    rw [if_pos ⟨by omega, hok'⟩]
  rw [hres]
  refine lp_loop pl (fun k fr σ => ∃ n v, n + k = l.length ∧ fr = ⟨[(0, vl eSpan nl l), (6, v), (7, .int .i64 ((n : Nat) + 1))], []⟩ ∧ σ.lim = 0 ∧ Buf 0 1 (AV.int .i64) σ v (pers l n)) ⟨l.length, 0, .vsl true [], by simp, by simp, hσ, Buf.nil⟩ ?_
  rintro k _ σ ⟨n, v, hn, rfl, hσ, hbuf⟩
  simp +contextual (disch := omega) [Und]
  refine ⟨fun hnl => ?_, fun hnl => ?_⟩
  · refine lp_count pl (n + 1) (fun i => [(0, vl eSpan nl l), (6, v), (7, .int .i64 ((n : Nat) + 1)), (44, .int .i64 ((n : Nat) + 1)), (45, .int .i64 i)]) (fun _ => σ)
      (fun i => ∀ a, a < l.length → ∀ b, b < l.length → a % (n + 1) = b % (n + 1) → a % (n + 1) < i → (nth l a).lo ≤ (nth l b).hi) (by simp) ?_
    intro i hi hinv
    simp +contextual (disch := omega) [Und]
    refine ⟨fun hin => ?_, fun hin => ?_⟩
    · refine lp_loop pl (fun m fr σ' => ∃ kk lo hi, kk + m = l.length + (n + 1) ∧ kk % (n + 1) = i ∧ Tight l (n + 1) i kk lo hi ∧ σ' = σ ∧ fr = ⟨[(0, vl eSpan nl l), (6, v), (7, .int .i64 ((n : Nat) + 1)), (9, .int .i64 lo), (10, .int .i64 hi), (11, .int .i64 kk), (44, .int .i64 ((n : Nat) + 1)), (45, .int .i64 i)], []⟩) ⟨l.length + (n + 1) - i, i, -1000000, 1000000, by omega, Nat.mod_eq_of_lt (by omega), ⟨fun a h1 h2 h3 => ?_, .inl rfl, .inl rfl⟩, rfl, rfl⟩ ?_
      · rw [Nat.mod_eq_of_lt (by omega)] at h3; omega
      rintro m _ σ' ⟨kk, lo, hi', hm, hmod, ht, rfl, rfl⟩
      simp +contextual (disch := omega) [Und]
      refine ⟨fun hkl => ⟨m - (n + 1), by omega, kk + (n + 1), by omega, ?_, _, _, ht.step hkl hmod, rfl, rfl, by omega⟩, fun hkl => ?_⟩
      · rw [Nat.add_mod_right, hmod]
      have hd := ht.done hkl hok'
      refine ⟨fun hgt => ⟨k - 1, by omega, n + 1, by omega, v, ⟨rfl, by omega⟩, hσ, ?_⟩, fun hle => ⟨by omega, fun a h1 b h2 h3 h4 => ?_⟩⟩
      · have hno : ¬ isPer l (n + 1) := fun hp => absurd (hd.2 (fun a h1 h2 b h3 h4 => hp a h1 b h3 (by omega))) (by omega)
        rw [pers_succ, if_neg hno, List.append_nil]
        exact hbuf
      · by_cases e : a % (n + 1) = i
        · exact hd.1 hle a h1 e b h2 (by omega)
        · exact hinv a h1 b h2 h3 (by omega)
    · have hyes : isPer l (n + 1) := fun a h1 b h2 h3 => hinv a h1 b h2 h3 (by have := Nat.mod_lt a (show 0 < n + 1 by omega); omega)
      refine hbuf.push encI (by omega) (by omega) ((n : Int) + 1) ?_ rfl fun v' σ' hb hkeep => ?_
      · have := pers_le l n; simp only [topBytes]; omega
      have hlim := hkeep.lim
      simp +contextual (disch := omega) []
      refine ⟨k - 1, by omega, n + 1, by omega, v', ⟨rfl, by omega⟩, by omega, ?_⟩
      rw [pers_succ, if_pos hyes]
      exact hb
  · rw [hbuf.fzI, show n = l.length by omega]
end Go.Oct.Screw
