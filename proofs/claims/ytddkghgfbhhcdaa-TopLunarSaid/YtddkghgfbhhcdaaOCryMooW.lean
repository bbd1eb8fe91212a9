/- The program's Moon. -/
import Derived.Test.YtddkghgfbhhcdaaOCryMoo
set_option maxRecDepth 100000
set_option maxHeartbeats 4000000
set_option linter.unusedVariables false
set_option linter.unusedSimpArgs false
namespace Go.Oct.Cry.Fx
open Go.Oct
theorem Moon_ok (nl : Bool) (l : List Span) (s : Span) (hx : l.length < 2 ^ 62) : ans prog O 31 [vl eSpan nl l, eSpan s] = some (.tuple [eSpan (moonV l s).1, .int .i64 (moonV l s).2]) := by
  have hit' := isTable_ok nl l hx
  refine fn_of' pl get31 (oo (by decide)) rfl rfl ?_
  by_cases h0 : okTab l ∧ isSp s 0 1000000
  · obtain ⟨ht, hs⟩ := id h0
    have hlen := ht.1
    have hlen2 : l.length ≤ 12 ∧ 2 ≤ l.length := by omega
    have hsp := spanned_ok s 0 1000000
    rw [decide_eq_true hs] at hsp
    rw [decide_eq_true ht] at hit'
    have he : eSpan s = .agg [.int .i64 s.lo, .int .i64 s.hi] := rfl
    rw [he]
    simp (disch := omega) [hit', hsp, -spanned_ok, -Bool.exists_bool]
    refine lp_loop pl (fun k fr σ => ∃ (i : Nat), i + k = l.length - 1 ∧ fr = ⟨[(0, vl eSpan nl l), (3, .ptr (some (0, 0))), (4, .ptr (some (1, 0))), (6, .ptr (some (2, 0))), (7, .bool (out l s i).isSome), (25, .int .i64 ((l.length : Int) - 1)), (26, .int .i64 i)], []⟩ ∧ σ.lim = 0 ∧ 3 ≤ σ.next ∧
      σ.get 0 = some (.cells [.int .i64 s.lo, .int .i64 s.hi]) ∧ σ.get 1 = some (.cells [.int .i64 0, .int .i64 0]) ∧ σ.get 2 = some (.cells [.int .i64 (mst (out l s i)).lo, .int .i64 (mst (out l s i)).hi]))
      ⟨l.length - 1, 0, by omega, by simp [out], by simp, by simp, by simp, by simp, by simp [out, mst]⟩ ?_
    rintro k _ σ ⟨i, hi, rfl, hl0, hn, hg0, hg1, hg2⟩
    by_cases hil : i < l.length - 1
    · have hr0 := (ht.2 i (by omega)).1
      have hr1 := (ht.2 (i + 1) (by omega)).1
      have hr2 := ((ht.2 (i + 1) (by omega)).2 (by omega)).1
      rw [Nat.add_sub_cancel] at hr2
      have q1 : (i : Int) < (l.length : Int) - 1 := by omega
      have q2 : i < l.length := by omega
      have q3 : i + 1 < l.length := by omega
      have k0 : ¬ 0 = σ.next := by omega
      have k1 : ¬ 1 = σ.next := by omega
      have k2 : ¬ 2 = σ.next := by omega
      have n1 : σ.next < σ.next + 1 + 1 := by omega
      have n2 : σ.next + 1 < σ.next + 1 + 1 := by omega
      have n3 : ¬ σ.next = σ.next + 1 := by omega
      have n4 : ¬ σ.next + 1 = σ.next := by omega
      have z0 : ¬ σ.next = 0 := by omega
      have z1 : ¬ σ.next = 1 := by omega
      have z2 : ¬ σ.next = 2 := by omega
      have q4 : (i : Int) + 1 < l.length := by omega
      have q5 : (0 : Int) ≤ (i : Int) + 1 := by omega
      have q6 : ((i : Int) + 1).toNat = i + 1 := by omega
      simp (disch := omega) [Und, hl0, hn, hg0, hg1, hg2, q1, q2, q3, q4, q5, q6, n1, n2, n3, n4, k0, k1, k2, -Bool.exists_bool]
      have hw0 : ((wid (nth l i) (nth l (i + 1)) : Nat) : Int) = (nth l (i + 1)).lo - (nth l i).lo := by unfold wid; omega
      have ho : out l s (i + 1) = inn (nth l i) (nth l (i + 1)) s (out l s i) (wid (nth l i) (nth l (i + 1)) + 1) := rfl
      refine lp_loop pl (fun k2 fr τ => ∃ q : Nat, q + k2 = wid (nth l i) (nth l (i + 1)) + 1 ∧ fr = ⟨[(0, vl eSpan nl l), (3, .ptr (some (0, 0))), (4, .ptr (some (1, 0))), (6, .ptr (some (2, 0))), (7, .bool (inn (nth l i) (nth l (i + 1)) s (out l s i) q).isSome), (9, .ptr (some (σ.next, 0))), (10, .ptr (some (σ.next + 1, 0))), (11, .int .i64 ((nth l (i + 1)).lo - (nth l i).lo)), (12, .int .i64 ((nth l i).lo + q)), (25, .int .i64 ((l.length : Int) - 1)), (26, .int .i64 i)], []⟩ ∧ τ.lim = 0 ∧ τ.next = σ.next + 1 + 1 ∧
        τ.get 0 = some (.cells [.int .i64 s.lo, .int .i64 s.hi]) ∧ τ.get 1 = some (.cells [.int .i64 0, .int .i64 0]) ∧ τ.get 2 = some (.cells [.int .i64 (mst (inn (nth l i) (nth l (i + 1)) s (out l s i) q)).lo, .int .i64 (mst (inn (nth l i) (nth l (i + 1)) s (out l s i) q)).hi]) ∧
        τ.get σ.next = some (.cells [.int .i64 (nth l i).lo, .int .i64 (nth l i).hi]) ∧ τ.get (σ.next + 1) = some (.cells [.int .i64 (nth l (i + 1)).lo, .int .i64 (nth l (i + 1)).hi]))
        ⟨wid (nth l i) (nth l (i + 1)) + 1, 0, by omega, by simp [inn], by simp, by simp, by simp (disch := omega) [hg0, k0, z0, z1, z2], by simp (disch := omega) [hg1, k1, z0, z1, z2], by simp (disch := omega) [hg2, k2, inn, z0, z1, z2], by simp (disch := omega) [n1, n3], by simp (disch := omega) [n4]⟩ ?_
      generalize ha : nth l i = a at *
      generalize hb : nth l (i + 1) = b at *
      rintro kk _ τ ⟨q, hq, rfl, t0, tn, g0, g1, g2, g3, g4⟩
      by_cases hqw : q ≤ wid a b
      · have e1 : (q : Int) ≤ b.lo - a.lo := by omega
        have p1 := mul_le (a := a.hi) (b := b.lo - (a.lo + q)) (A := 1000000) (B := 100000) (by omega) (by omega) (by omega) (by omega)
        have p2 := mul_le (a := b.hi) (b := a.lo + q - a.lo) (A := 1000000) (B := 100000) (by omega) (by omega) (by omega) (by omega)
        have p3 := mul_le (a := s.lo) (b := b.lo - a.lo) (A := 1000000) (B := 100000) (by unfold isSp at hs; omega) (by unfold isSp at hs; omega) (by omega) (by omega)
        have p4 := mul_le (a := s.hi) (b := b.lo - a.lo) (A := 1000000) (B := 100000) (by unfold isSp at hs; omega) (by unfold isSp at hs; omega) (by omega) (by omega)
        have e2 : a.lo + (q : Int) ≤ b.lo := by omega
        have m0 : 0 < τ.next := by omega
        have m1 : 1 < τ.next := by omega
        have m2 : 2 < τ.next := by omega
        have y0 : 0 < σ.next := by omega
        have y1 : 1 < σ.next := by omega
        have y2 : 2 < σ.next := by omega
        have y3 : 1 < σ.next + 1 + 1 := by omega
        have y4 : 2 < σ.next + 1 + 1 := by omega
        have es : inn a b s (out l s i) (q + 1) = stp (inn a b s (out l s i) q) a b s (a.lo + q) := rfl
        by_cases hh : hit a b s (a.lo + q)
        · obtain ⟨c1, c2⟩ := id hh
          unfold dist at c1 c2
          have c3 := Int.not_lt.2 c1
          have c4 := Int.not_lt.2 c2
          cases hst : inn a b s (out l s i) q with
          | none =>
            have es2 : inn a b s (out l s i) (q + 1) = some ⟨a.lo + q, a.lo + q⟩ := by rw [es, hst]; unfold stp; rw [if_pos hh]
            rw [hst] at g2
            simp (disch := omega) [Und, t0, tn, g0, g1, g2, g3, g4, e2, m0, m1, m2, c1, c2, c3, c4, hst, y0, y1, y2, y3, y4, z1, z2, mst, -Bool.exists_bool]
            exact ⟨kk - 1, by omega, q + 1, by omega, ⟨by rw [es2]; rfl, by omega⟩, by rw [es2]; exact ⟨rfl, rfl⟩⟩
          | some x =>
            have es2 : inn a b s (out l s i) (q + 1) = some ⟨x.lo, a.lo + q⟩ := by rw [es, hst]; unfold stp; rw [if_pos hh]
            rw [hst] at g2
            simp (disch := omega) [Und, t0, tn, g0, g1, g2, g3, g4, e2, m0, m1, m2, c1, c2, c3, c4, hst, y0, y1, y2, y3, y4, z1, z2, mst, -Bool.exists_bool]
            exact ⟨kk - 1, by omega, q + 1, by omega, ⟨by rw [es2]; rfl, by omega⟩, by rw [es2]; exact ⟨rfl, rfl⟩⟩
        · have es2 : inn a b s (out l s i) (q + 1) = inn a b s (out l s i) q := by rw [es]; unfold stp; rw [if_neg hh]
          simp (disch := omega) [Und, t0, tn, g0, g1, g2, g3, g4, e2, m0, m1, m2, y0, y1, y2, y3, y4, -Bool.exists_bool]
          refine ⟨fun _ => ⟨kk - 1, by omega, q + 1, by omega, ⟨by rw [es2], by omega⟩, by rw [es2], by rw [es2]⟩, fun c1 c2 => absurd ⟨c1, c2⟩ hh⟩
      · obtain rfl : q = wid a b + 1 := by omega
        have e2 : ¬ a.lo + ((wid a b + 1 : Nat) : Int) ≤ b.lo := by omega
        have e3 : ¬ a.lo + (((wid a b : Nat) : Int) + 1) ≤ b.lo := by omega
        simp (disch := omega) [Und, t0, tn, g0, g1, g2, g3, g4, e2, e3, -Bool.exists_bool]
        exact ⟨k - 1, by omega, i + 1, by omega, ⟨by rw [ho], by omega⟩, by omega, by rw [ho], by rw [ho]⟩
    · obtain rfl : i = l.length - 1 := by omega
      have q1 : ((l.length - 1 : Nat) : Int) = (l.length : Int) - 1 := by omega
      have hv : moonV l s = (match out l s (l.length - 1) with | none => (⟨0, 0⟩, 4) | some x => (x, 0)) := by unfold moonV; rw [if_pos h0]; cases out l s (l.length - 1) <;> rfl
      have y1 : 1 < σ.next := by omega
      have y2 : 2 < σ.next := by omega
      cases hst : out l s (l.length - 1) with
      | none =>
        rw [hst] at hg2 hv
        simp only at hv
        rw [hv]
        simp (disch := omega) [Und, hl0, hn, hg0, hg1, hg2, q1, hst, y1, y2, -Bool.exists_bool]
        rfl
      | some x =>
        rw [hst] at hg2 hv
        simp only at hv
        rw [hv]
        simp (disch := omega) [Und, hl0, hn, hg0, hg1, hg2, q1, hst, mst, y1, y2, -Bool.exists_bool]
        rfl
  · have hv : moonV l s = (⟨0, 0⟩, 83) := by unfold moonV; rw [if_neg h0]
    rw [hv]
    have he : eSpan s = .agg [.int .i64 s.lo, .int .i64 s.hi] := rfl
    rw [he]
    by_cases ht : okTab l
    · have hs : ¬ isSp s 0 1000000 := fun h => h0 ⟨ht, h⟩
      simp (disch := omega) [hit', ht, hs, -Bool.exists_bool]
      rfl
    · simp (disch := omega) [hit', ht, -Bool.exists_bool]
      rfl
end Go.Oct.Cry.Fx
