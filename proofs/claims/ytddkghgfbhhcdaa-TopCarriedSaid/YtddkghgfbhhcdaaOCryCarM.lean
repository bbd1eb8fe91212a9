/- Clocks that are carried, plain: spans, sorted by their lower ends, put together. -/
import Derived.Test.YtddkghgfbhhcdaaOCryCarP
set_option maxRecDepth 100000
set_option maxHeartbeats 4000000
set_option linter.unusedVariables false
set_option linter.unusedSimpArgs false
namespace Go.Oct.Cry.Fx
open Go.Oct
structure Mrg (S : List Span) (i : Nat) (M : List Span) : Prop where
  can : Canon M
  iff : ∀ n, inL M n ↔ ∃ j, j < i ∧ (nth S j).lo ≤ n ∧ n ≤ (nth S j).hi
  los : ∀ q ∈ M, ∃ j, j < i ∧ q.lo = (nth S j).lo
  len : M.length ≤ i
  bd : ∀ q ∈ M, -200000 ≤ q.lo ∧ q.hi ≤ 200000
theorem Mrg.nil (S : List Span) : Mrg S 0 [] := by
  refine ⟨⟨.nil, fun s h => ?_⟩, fun n => ⟨fun h => ?_, fun h => ?_⟩, fun s h => ?_, Nat.le_refl _, fun s h => ?_⟩
  · cases h
  · obtain ⟨s, h1, _⟩ := h; cases h1
  · obtain ⟨j, h1, _⟩ := h; omega
  · cases h
  · cases h
theorem inL_snoc {L : List Span} {s : Span} {n : Int} : inL (L ++ [s]) n ↔ inL L n ∨ (s.lo ≤ n ∧ n ≤ s.hi) := by
  unfold inL
  constructor
  · rintro ⟨x, h1, h2⟩
    rcases List.mem_append.1 h1 with h1 | h1
    · exact .inl ⟨x, h1, h2⟩
    · obtain rfl := List.mem_singleton.1 h1
      exact .inr h2
  · rintro (⟨x, h1, h2⟩ | h)
    · exact ⟨x, List.mem_append_left _ h1, h2⟩
    · exact ⟨s, List.mem_append_right _ (List.mem_singleton.2 rfl), h⟩
theorem Canon.snoc {L : List Span} {s : Span} (h : Canon L) (hs : s.lo ≤ s.hi) (hg : ∀ q ∈ L, q.hi + 1 < s.lo) : Canon (L ++ [s]) :=
  ⟨List.pairwise_append.2 ⟨h.gap, List.pairwise_singleton _ _, fun a ha b hb => by obtain rfl := List.mem_singleton.1 hb; exact hg a ha⟩, fun q hq => by
    rcases List.mem_append.1 hq with hq | hq
    · exact h.ne q hq
    · obtain rfl := List.mem_singleton.1 hq
      exact hs⟩
theorem Canon.init {L : List Span} {s : Span} (h : Canon (L ++ [s])) : Canon L ∧ s.lo ≤ s.hi ∧ ∀ q ∈ L, q.hi + 1 < s.lo := by
  obtain ⟨h1, _, h3⟩ := List.pairwise_append.1 h.gap
  exact ⟨⟨h1, fun q hq => h.ne q (List.mem_append_left _ hq)⟩, h.ne s (List.mem_append_right _ (List.mem_singleton.2 rfl)), fun q hq => h3 q hq s (List.mem_singleton.2 rfl)⟩
theorem Mrg.ext {S : List Span} {i : Nat} {M0 : List Span} {l : Span} (h : Mrg S i (M0 ++ [l])) (hs : ∀ p q, p < q → q < S.length → (nth S p).lo ≤ (nth S q).lo) (hi : i < S.length) (hb : (nth S i).lo ≤ (nth S i).hi ∧ (nth S i).hi ≤ 200000) (ht : (nth S i).lo ≤ l.hi + 1) : Mrg S (i + 1) (M0 ++ [⟨l.lo, max l.hi (nth S i).hi⟩]) := by
  obtain ⟨c1, c2, c3⟩ := h.can.init
  obtain ⟨j0, j1, j2⟩ := h.los l (List.mem_append_right _ (List.mem_singleton.2 rfl))
  have hlo := hs j0 i j1 hi
  refine ⟨c1.snoc (by simp only; omega) c3, fun n => ?_, fun q hq => ?_, ?_, fun q hq => ?_⟩
  · rw [inL_snoc]
    have e := h.iff n
    rw [inL_snoc] at e
    simp only
    constructor
    · rintro (h1 | ⟨h1, h2⟩)
      · obtain ⟨j, h3, h4⟩ := e.1 (.inl h1)
        exact ⟨j, by omega, h4⟩
      · by_cases h3 : n ≤ l.hi
        · obtain ⟨j, h4, h5⟩ := e.1 (.inr ⟨h1, h3⟩)
          exact ⟨j, by omega, h5⟩
        · exact ⟨i, by omega, by omega, by omega⟩
    · rintro ⟨j, h1, h2, h3⟩
      by_cases h4 : j = i
      · subst h4; exact .inr ⟨by omega, by omega⟩
      · rcases e.2 ⟨j, by omega, h2, h3⟩ with h5 | h5
        · exact .inl h5
        · exact .inr ⟨h5.1, by omega⟩
  · rcases List.mem_append.1 hq with hq | hq
    · obtain ⟨j, h1, h2⟩ := h.los q (List.mem_append_left _ hq)
      exact ⟨j, by omega, h2⟩
    · obtain rfl := List.mem_singleton.1 hq
      exact ⟨j0, by omega, j2⟩
  · have := h.len; simp at this ⊢; omega
  · rcases List.mem_append.1 hq with hq | hq
    · exact h.bd q (List.mem_append_left _ hq)
    · obtain rfl := List.mem_singleton.1 hq
      have := h.bd l (List.mem_append_right _ (List.mem_singleton.2 rfl))
      exact ⟨this.1, by simp only; omega⟩
theorem Mrg.app {S : List Span} {i : Nat} {M : List Span} (h : Mrg S i M) (hi : i < S.length) (hb : (nth S i).lo ≤ (nth S i).hi ∧ -200000 ≤ (nth S i).lo ∧ (nth S i).hi ≤ 200000) (ht : ∀ M0 l, M = M0 ++ [l] → l.hi + 1 < (nth S i).lo) : Mrg S (i + 1) (M ++ [nth S i]) := by
  have hall : ∀ q ∈ M, q.hi + 1 < (nth S i).lo := by
    rcases List.eq_nil_or_concat M with rfl | ⟨M0, l, rfl⟩
    · intro q hq; cases hq
    · rw [List.concat_eq_append] at h ht ⊢
      have h1 := ht M0 l rfl
      obtain ⟨c1, c2, c3⟩ := h.can.init
      intro q hq
      rcases List.mem_append.1 hq with hq | hq
      · have := c3 q hq; omega
      · obtain rfl := List.mem_singleton.1 hq; exact h1
  refine ⟨h.can.snoc hb.1 hall, fun n => ?_, fun q hq => ?_, ?_, fun q hq => ?_⟩
  · rw [inL_snoc, h.iff]
    constructor
    · rintro (⟨j, h1, h2⟩ | h1)
      · exact ⟨j, by omega, h2⟩
      · exact ⟨i, by omega, h1⟩
    · rintro ⟨j, h1, h2⟩
      by_cases h4 : j = i
      · subst h4; exact .inr h2
      · exact .inl ⟨j, by omega, h2⟩
  · rcases List.mem_append.1 hq with hq | hq
    · obtain ⟨j, h1, h2⟩ := h.los q hq
      exact ⟨j, by omega, h2⟩
    · obtain rfl := List.mem_singleton.1 hq
      exact ⟨i, by omega, rfl⟩
  · have := h.len; rw [List.length_append, List.length_singleton]; omega
  · rcases List.mem_append.1 hq with hq | hq
    · exact h.bd q hq
    · obtain rfl := List.mem_singleton.1 hq
      exact hb.2
theorem set_self' {α : Type} {l : List α} {i : Nat} {x : α} (h : l[i]? = some x) : l.set i x = l := by
  refine List.ext_getElem? fun j => ?_
  rw [List.getElem?_set]
  by_cases e : i = j
  · subst e
    have := (List.getElem?_eq_some_iff.1 h).1
    rw [if_pos rfl, if_pos this, h]
  · rw [if_neg e]
theorem setHi {zs : List Span} {m : Nat} (h : m < zs.length) (y : Int) : (rowOf eSpan zs).set (m * 2 + 1) (.int .i64 y) = rowOf eSpan (zs.set m ⟨(nth zs m).lo, y⟩) := by
  have h1 := setS h ⟨(nth zs m).lo, y⟩
  simp only at h1
  rw [← h1]
  congr 1
  have := row_cell encSpan (xs := zs) (j := m) (c := 0) h (by decide)
  exact (set_self' this).symm
theorem Len0_ok : ∃ l : Nat, l ≤ 5 ∧ ans prog O 118 [.int .u64 0] = some (.int .i64 l) := by
  have main : ∃ v, (∃ l : Nat, v = AV.int .i64 l ∧ l ≤ 5) ∧ ans prog O 143 [.int .u64 0] = some v := by
    refine ⟨.int .i64 (nth (bys tab0) 0), ⟨(nth (bys tab0) 0).toNat, by congr 1, by decide +kernel⟩, ?_⟩
    refine fn_of' pl get143 (oo (by decide)) rfl rfl ?_
    simp (disch := omega) [Und, aconv_u8']
    show 0 < (bys tab0).length ∧ w64 (w64 (nth (bys tab0) 0)) = nth (bys tab0) 0
    have hlen : (bys tab0).length = 256 := by decide +kernel
    have hbd := bys_bd tab0 0 (by omega)
    refine ⟨by omega, ?_⟩
    simp (disch := omega)
  obtain ⟨_, ⟨l, rfl, h1⟩, h2⟩ := main
  refine ⟨l, h1, ?_⟩
  refine fn_of' pl get118 (oo (by decide)) rfl rfl ?_
  simp (disch := omega) [Und, h2]
theorem SortFunc_nil {σ : AH} {K : AV → AH → Prop} (hK : K (.tuple []) σ) : Call prog O (.fn 68) [.vsl true [], cmpF] σ K := by
  refine @call_of' _ _ pl _ _ _ _ _ _ _ ⟨K⟩ get68 ((oo (by decide)).2 _) rfl ?_
  obtain ⟨l, h2, h1⟩ := Len0_ok
  simp (disch := omega) [h1, aconv_u64', -Bool.exists_bool]
  refine @call_of' _ _ pl _ _ _ _ _ _ _ _ get117 ((oo (by decide)).2 _) rfl ?_
  simp (disch := omega) [-Bool.exists_bool]
  refine lp_loop pl (fun k fr υ => k = 0 ∧ fr = ⟨[(0, .vsl true []), (1, .int .i64 0), (2, .int .i64 0), (3, .int .i64 l), (4, cmpF), (10, .bool true), (11, .bool true)], []⟩ ∧ υ = σ) ⟨0, rfl, rfl, rfl⟩ ?_
  rintro k _ υ1 ⟨rfl, rfl, hυ1⟩
  subst hυ1
  simp (disch := omega) [Und, -Bool.exists_bool]
  refine @call_of' _ _ pl _ _ _ _ _ _ _ _ get134 ((oo (by decide)).2 _) rfl ?_
  simp (disch := omega) [-Bool.exists_bool]
  refine lp_loop pl (fun k fr υ => fr = ⟨[(0, .vsl true []), (1, .int .i64 0), (2, .int .i64 0), (3, cmpF), (8, .int .i64 1)], []⟩ ∧ υ = υ1) ⟨0, rfl, rfl⟩ ?_
  rintro k _ _ ⟨rfl, rfl⟩
  simp (disch := omega) [Und, -Bool.exists_bool]
  exact hK
end Go.Oct.Cry.Fx
