/- FixLit: the law. -/
import Derived.Test.YtddclpecmjibkaaDoorOFixLitP
import Derived.Test.YtddclpecmjibkaaDoorOT3
set_option maxRecDepth 100000
set_option maxHeartbeats 4000000
set_option linter.unusedVariables false
set_option linter.unusedSimpArgs false
namespace Go.Oct.Fix
open Go.Oct
theorem shone_ok (nl : Bool) (l : List Span) (s : Span) (t : Int) (h : okTab l) (hs : isSp s 0 1000000) (h1 : (nth l 0).lo ≤ t) (h2 : t ≤ (nth l (l.length - 1)).lo) (b : Bool) (hb : b = true ↔ Met l s (l.length - 1) t) :
    ans prog O 50 [vl eSpan nl l, .agg [.int .i64 s.lo, .int .i64 s.hi], .int .i64 t] = some (.tuple [.bool b, .bool true]) := by
  have hl := h.1
  unfold isSp at hs
  refine fn_of' pl get50 (oo (by decide)) rfl rfl ?_
  simp (disch := omega) [-Bool.exists_bool]
  refine lp_loop pl (fun k fr σ => ∃ j : Nat, j + k = l.length ∧ 1 ≤ j ∧ (j = 1 ∧ (nth l 0).lo ≤ t ∨ (nth l (j - 1)).lo < t) ∧ fr = ⟨[(0, vl eSpan nl l), (2, .int .i64 t), (4, .ptr (some (0, 0))), (8, .int .i64 j)], []⟩ ∧ σ.lim = 0 ∧ 1 ≤ σ.next ∧ σ.get 0 = some (.cells [.int .i64 s.lo, .int .i64 s.hi]))
    ⟨l.length - 1, 1, by omega, by omega, .inl ⟨rfl, h1⟩, rfl, by simp, by simp, by simp⟩ ?_
  rintro k _ σ ⟨j, hj, hj1, hjt0, rfl, hl0, hn, hg0⟩
  have hjt : (nth l (j - 1)).lo ≤ t := by
    rcases hjt0 with ⟨rfl, h⟩ | h
    · exact h
    · omega
  by_cases hjl : j < l.length
  · have hr0 := (h.2 (j - 1) (by omega)).1
    have hr1 := (h.2 j (by omega)).1
    have hr2 := tab_rise h (i := j - 1) (by omega)
    rw [show j - 1 + 1 = j by omega] at hr2
    have q1 : ((j : Int) - 1).toNat = j - 1 := by omega
    have q2 : (j : Int) - 1 < l.length := by omega
    have q3 : (0 : Int) ≤ (j : Int) - 1 := by omega
    have k0 : ¬ 0 = σ.next := by omega
    have k1 : ¬ 0 = σ.next + 1 := by omega
    have k2 : ¬ σ.next = 0 := by omega
    have n1 : σ.next < σ.next + 1 + 1 := by omega
    have n2 : σ.next + 1 < σ.next + 1 + 1 := by omega
    have n3 : ¬ σ.next = σ.next + 1 := by omega
    have n4 : ¬ σ.next + 1 = σ.next := by omega
    have z0 : ¬ σ.next = 0 := by omega
    have z1 : ¬ σ.next + 1 = 0 := by omega
    simp (disch := omega) [Und, hl0, hn, hg0, hjl, q1, q2, q3, n1, n2, n3, n4, k0, k1, z0, z1, -Bool.exists_bool]
    generalize ha : nth l (j - 1) = a at *
    generalize hb' : nth l j = c at *
    by_cases ht : t ≤ c.lo
    · have p1 := mul_le (a := c.lo - t) (b := a.hi) (A := 100000) (B := 1000000) (by omega) (by omega) (by omega) (by omega)
      have p2 := mul_le (a := t - a.lo) (b := c.hi) (A := 100000) (B := 1000000) (by omega) (by omega) (by omega) (by omega)
      have p3 := mul_le (a := s.lo) (b := c.lo - a.lo) (A := 1000000) (B := 100000) (by omega) (by omega) (by omega) (by omega)
      have p4 := mul_le (a := s.hi) (b := c.lo - a.lo) (A := 1000000) (B := 100000) (by omega) (by omega) (by omega) (by omega)
      have hm : Met l s (l.length - 1) t ↔ hit a c s t := by
        have := met_seg h (s := s) (i := j - 1) (t := t) (by omega) (by unfold seg; rw [show j - 1 + 1 = j by omega, ha, hb']; omega)
        rw [show j - 1 + 1 = j by omega, ha, hb'] at this
        exact this
      have hd : dist a c t = (c.lo - t) * a.hi + (t - a.lo) * c.hi := by unfold dist; rw [Int.mul_comm a.hi, Int.mul_comm c.hi]
      have hh : b = (decide (s.lo * (c.lo - a.lo) ≤ (c.lo - t) * a.hi + (t - a.lo) * c.hi) && decide ((c.lo - t) * a.hi + (t - a.lo) * c.hi ≤ s.hi * (c.lo - a.lo))) := by
        rw [Bool.eq_iff_iff, hb, hm]
        unfold hit
        rw [hd, Bool.and_eq_true, decide_eq_true_eq, decide_eq_true_eq]
      simp (disch := omega) [Und, hl0, hn, hg0, ht, hjt, n1, n2, n3, n4, k0, k1, z0, z1, -Bool.exists_bool]
      rw [hh]
      simp (disch := omega) [Und, hl0, hn, hg0, ht, hjt, n1, n2, n3, n4, k0, k1, z0, z1, -Bool.exists_bool]
      exact ⟨by omega, fun h => absurd h (by omega)⟩
    · simp (disch := omega) [Und, hl0, hn, hg0, ht, hjt, n1, n2, n3, n4, k0, k1, z0, z1, -Bool.exists_bool]
      exact ⟨by omega, k - 1, by omega, j + 1, by omega, by omega, .inr (by rw [Nat.add_sub_cancel, hb']; omega), by omega⟩
  · exfalso
    obtain rfl : j = l.length := by omega
    rcases hjt0 with ⟨h, _⟩ | h
    · omega
    · omega
@[simp] theorem to_ok (a b : Int) : ans prog O 43 [.int .i64 a, .int .i64 b] = some (.agg [.int .i64 a, .int .i64 b]) := by
  refine fn_of' pl get43 (oo (by decide)) rfl rfl ?_
  simp (disch := omega) [-Bool.exists_bool]
theorem Met_dec {l : List Span} (h : okTab l) {s : Span} {t : Int} (h1 : (nth l 0).lo ≤ t) (h2 : t ≤ (nth l (l.length - 1)).lo) {x : Span} (ho : out l s (l.length - 1) = some x) : decide (x.lo ≤ t ∧ t ≤ x.hi) = true ↔ Met l s (l.length - 1) t := by
  rw [moon_met h h1 h2, decide_eq_true_eq, ho]
  constructor
  · intro h; exact ⟨x, rfl, h⟩
  · rintro ⟨y, hy, h⟩; cases hy; exact h
theorem FixLit_ok (nl : Bool) (l : List Span) (lo hi n0 n1 : Int) {x : AV} (h : Slice eSpan (fun s => i64 s.lo ∧ i64 s.hi) x nl l) (_ : i64 lo) (_ : i64 hi) (_ : i64 n0) (_ : i64 n1) : ans prog O 14 [vl eSpan nl l, .agg [.int .i64 lo, .int .i64 hi], .agg [.int .i64 n0, .int .i64 n1]] = some (.bool true) := by
  have hx := h.len
  have k1 := Moon_ok nl l ⟨lo, hi⟩ (by omega)
  have he : ∀ s, eSpan s = .agg [.int .i64 s.lo, .int .i64 s.hi] := fun _ => rfl
  have ksp := Spanned_okR ⟨lo, hi⟩ 0 1000000
  refine fn_of' pl get14 (oo (by decide)) rfl rfl ?_
  by_cases h0 : okTab l ∧ isSp ⟨lo, hi⟩ 0 1000000
  · obtain ⟨ht, hs⟩ := id h0
    have hlen := ht.1
    have hs' : 0 ≤ lo ∧ lo ≤ hi ∧ hi ≤ 1000000 := hs
    rw [decide_eq_true hs] at ksp
    have f0 : (nth l 0).lo ≤ (nth l (l.length - 1)).lo := tab_le2 ht (by omega) (by omega)
    have f1 := (ht.2 0 (by omega)).1
    have f2 := (ht.2 (l.length - 1) (by omega)).1
    have q1 : ((l.length : Int) - 1).toNat = l.length - 1 := by omega
    have q2 : (0 : Int) < l.length := by omega
    have q3 : (0 : Int) ≤ (l.length : Int) - 1 := by omega
    have q4 : (l.length : Int) - 1 < l.length := by omega
    have q5 : 0 < l.length := by omega
    have q6 : l.length - 1 < l.length := by omega
    have q7 : ((l.length : Int) - 1) = ((l.length - 1 : Nat) : Int) := by omega
    have c0 := chz_in (n := n0) f0
    have c1 := chz_in (n := n1) f0
    have g0 := chz_in (n := n0) hs'.2.1
    obtain ⟨t0, et0⟩ : ∃ t0, chz (nth l 0).lo (nth l (l.length - 1)).lo n0 = t0 := ⟨_, rfl⟩
    obtain ⟨t1, et1⟩ : ∃ t1, chz (nth l 0).lo (nth l (l.length - 1)).lo n1 = t1 := ⟨_, rfl⟩
    rw [et0] at c0
    rw [et1] at c1
    have ch0 := Chosen_ok (nth l 0).lo (nth l (l.length - 1)).lo n0 (by omega) (by omega) (by omega) (by omega)
    have ch1 := Chosen_ok (nth l 0).lo (nth l (l.length - 1)).lo n1 (by omega) (by omega) (by omega) (by omega)
    rw [et0] at ch0
    rw [et1] at ch1
    cases ho : out l ⟨lo, hi⟩ (l.length - 1) with
    | none =>
      have hv : moonV l ⟨lo, hi⟩ = (⟨0, 0⟩, 4) := by unfold moonV; rw [if_pos h0, ho]
      rw [hv] at k1
      have nm : ∀ t, (nth l 0).lo ≤ t → t ≤ (nth l (l.length - 1)).lo → ¬ Met l ⟨lo, hi⟩ (l.length - 1) t := fun t a b hm => by
        obtain ⟨y, hy, _⟩ := (moon_met ht a b).1 hm
        rw [ho] at hy; cases hy
      have s0 := shone_ok nl l ⟨lo, hi⟩ t0 ht hs c0.1 c0.2 false (by simpa using nm t0 c0.1 c0.2)
      have s1 := shone_ok nl l ⟨lo, hi⟩ t1 ht hs c1.1 c1.2 false (by simpa using nm t1 c1.1 c1.2)
      rw [he, he] at k1
      simp only at k1 ksp s0 s1
      simp (disch := omega) [k1, ksp, hlen, Und, q1, q2, q3, q4, q5, q6, -Spanned_okR, -Chosen_ok, -Bool.exists_bool]
      refine ⟨by omega, ?_⟩
      refine lp_loop pl (fun k fr σ => ∃ i : Nat, k + i = 2 ∧ fr = ⟨[(0, vl eSpan nl l), (4, .ptr (some (0, 0))), (5, .ptr (some (1, 0))), (7, .ptr (some (2, 0))), (8, .int .i64 4), (9, .int .i64 (nth l 0).lo), (10, .int .i64 (nth l (l.length - 1)).lo), (11, .int .i64 i)], []⟩ ∧ σ.lim = 0 ∧ 3 ≤ σ.next ∧
          σ.get 0 = some (.cells [.int .i64 lo, .int .i64 hi]) ∧ σ.get 1 = some (.cells [.int .i64 n0, .int .i64 n1]) ∧ σ.get 2 = some (.cells [.int .i64 0, .int .i64 0]))
        ⟨2, 0, by omega, rfl, rfl, by simp, by simp, by simp, by simp⟩ ?_
      rintro k _ σ ⟨i, hi2, rfl, z0, zn, zg0, zg1, zg2⟩
      have l0 := AH.get_lt zg0
      have l1 := AH.get_lt zg1
      have l2 := AH.get_lt zg2
      rcases Nat.lt_trichotomy i 1 with e | e | e
      · obtain rfl : i = 0 := by omega
        simp (disch := omega) [Und, z0, zg0, zg1, zg2, l0, l1, l2, ch0, s0, -Chosen_ok, -Bool.exists_bool]
        exact ⟨k - 1, by omega, 1, by omega, by omega⟩
      · subst e
        simp (disch := omega) [Und, z0, zg0, zg1, zg2, l0, l1, l2, ch1, s1, -Chosen_ok, -Bool.exists_bool]
        exact ⟨k - 1, by omega, 2, by omega, by omega⟩
      · obtain rfl : i = 2 := by omega
        simp (disch := omega) [Und, z0, zg0, zg1, zg2, l0, l1, l2, -Bool.exists_bool]
    | some x =>
      have hv : moonV l ⟨lo, hi⟩ = (x, 0) := by unfold moonV; rw [if_pos h0, ho]
      rw [hv] at k1
      have s0 := shone_ok nl l ⟨lo, hi⟩ t0 ht hs c0.1 c0.2 (decide (x.lo ≤ t0 ∧ t0 ≤ x.hi)) (Met_dec ht c0.1 c0.2 ho)
      have s1 := shone_ok nl l ⟨lo, hi⟩ t1 ht hs c1.1 c1.2 (decide (x.lo ≤ t1 ∧ t1 ≤ x.hi)) (Met_dec ht c1.1 c1.2 ho)
      obtain ⟨m1, m2⟩ := moon_ends ht ho
      have r1 := met_rows ht m1
      have r2 := met_rows ht m2
      have s2 := shone_ok nl l ⟨lo, hi⟩ x.lo ht hs r1.1 r1.2 true (by simpa using m1)
      have s3 := shone_ok nl l ⟨lo, hi⟩ x.hi ht hs r2.1 r2.2 true (by simpa using m2)
      obtain ⟨u, eu⟩ : ∃ u, chz lo hi n0 = u := ⟨_, rfl⟩
      rw [eu] at g0
      have ch2 := Chosen_ok lo hi n0 (by omega) (by omega) (by omega) (by omega)
      rw [eu] at ch2
      have k2 := Moon_ok nl l ⟨u, hi⟩ (by omega)
      have hs2 : isSp ⟨u, hi⟩ 0 1000000 := ⟨by show 0 ≤ u; omega, by show u ≤ hi; omega, by show hi ≤ 1000000; omega⟩
      have hv2 : (moonV l ⟨u, hi⟩ = (⟨0, 0⟩, 4)) ∨ ∃ y, moonV l ⟨u, hi⟩ = (y, 0) ∧ x.lo ≤ y.lo ∧ y.hi ≤ x.hi := by
        cases ho2 : out l ⟨u, hi⟩ (l.length - 1) with
        | none => left; unfold moonV; rw [if_pos ⟨ht, hs2⟩, ho2]
        | some y =>
          refine .inr ⟨y, by unfold moonV; rw [if_pos ⟨ht, hs2⟩, ho2], ?_⟩
          exact moon_more ht (s := ⟨lo, hi⟩) (r := ⟨u, hi⟩) (by show lo ≤ u; omega) (Int.le_refl _) ho ho2
      rw [he, he] at k1 k2
      simp only at k1 k2 ksp s0 s1 s2 s3
      simp (disch := omega) [k1, ksp, hlen, Und, q1, q2, q3, q4, q5, q6, -Spanned_okR, -Chosen_ok, -Bool.exists_bool]
      refine ⟨by omega, ?_⟩
      refine lp_loop pl (fun k fr σ => ∃ i : Nat, k + i = 2 ∧ fr = ⟨[(0, vl eSpan nl l), (4, .ptr (some (0, 0))), (5, .ptr (some (1, 0))), (7, .ptr (some (2, 0))), (8, .int .i64 0), (9, .int .i64 (nth l 0).lo), (10, .int .i64 (nth l (l.length - 1)).lo), (11, .int .i64 i)], []⟩ ∧ σ.lim = 0 ∧ 3 ≤ σ.next ∧
          σ.get 0 = some (.cells [.int .i64 lo, .int .i64 hi]) ∧ σ.get 1 = some (.cells [.int .i64 n0, .int .i64 n1]) ∧ σ.get 2 = some (.cells [.int .i64 x.lo, .int .i64 x.hi]))
        ⟨2, 0, by omega, rfl, rfl, by simp, by simp, by simp, by simp⟩ ?_
      rintro k _ σ ⟨i, hi2, rfl, z0, zn, zg0, zg1, zg2⟩
      have l0 := AH.get_lt zg0
      have l1 := AH.get_lt zg1
      have l2 := AH.get_lt zg2
      rcases Nat.lt_trichotomy i 1 with e | e | e
      · obtain rfl : i = 0 := by omega
        simp (disch := omega) [Und, z0, zg0, zg1, zg2, l0, l1, l2, ch0, s0, -Chosen_ok, -Bool.exists_bool]
        exact ⟨k - 1, by omega, 1, by omega, by omega⟩
      · subst e
        simp (disch := omega) [Und, z0, zg0, zg1, zg2, l0, l1, l2, ch1, s1, -Chosen_ok, -Bool.exists_bool]
        exact ⟨k - 1, by omega, 2, by omega, by omega⟩
      · obtain rfl : i = 2 := by omega
        have l3 : 2 < σ.next + 1 := by omega
        have l4 : ¬ 2 = σ.next := by omega
        have l5 : σ.next < σ.next + 1 := by omega
        rcases hv2 with hv2 | ⟨y, hv2, w1, w2⟩
        · rw [hv2] at k2
          simp (disch := omega) [Und, z0, zg0, zg1, zg2, l0, l1, l2, l3, l4, l5, s2, s3, ch2, k2, -Chosen_ok, -Bool.exists_bool]
        · rw [hv2] at k2
          simp (disch := omega) [Und, z0, zg0, zg1, zg2, l0, l1, l2, l3, l4, l5, s2, s3, ch2, k2, w1, w2, -Chosen_ok, -Bool.exists_bool]
  · have hv : moonV l ⟨lo, hi⟩ = (⟨0, 0⟩, 83) := by unfold moonV; rw [if_neg h0]
    rw [hv, he, he] at k1
    simp only at k1
    simp (disch := omega) [k1, Und, -Spanned_okR, -Chosen_ok, -Bool.exists_bool]
end Go.Oct.Fix
