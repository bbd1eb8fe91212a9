/- ClockLonger: more days of a watch. -/
import Derived.Test.YtpccnjgeddjfjaaOClockWatL
import Derived.Test.YtpccnjgeddjfjaaOClockLonP
import Derived.Test.YtpccnjgeddjfjaaOClockChz
set_option maxRecDepth 100000
set_option maxHeartbeats 1000000
set_option linter.unusedVariables false
set_option linter.unusedSimpArgs false
namespace Go.Oct.Clock
open Go.Oct
theorem ClockLonger_main (nF nS : Bool) (w : Wt) (n : Int) (hF : w.F.length < 2 ^ 62) (hS : w.S.length < 2 ^ 62) : ans prog O 13 [.agg (cWt nF nS w), .int .i64 n] = some (.bool true) := by
  refine fn_of' pl get13 (oo (by decide)) rfl rfl ?_
  by_cases hw : okWt w
  · obtain ⟨_, ⟨nl, L, rfl, hL⟩, a1⟩ := JumpedP_ok (nF := nF) (nS := nS) hw
    obtain ⟨_, ⟨d, e, rfl, hd⟩, a3⟩ := SinceP_ok (nF := nF) (nS := nS) hw
    have hl := jo_len hL
    have h20 := hw.1.1
    have hSl := hw.1.2.1
    have hSl' : w.S.length = w.F.length := by omega
    obtain ⟨m, m1, m2, m3, m4, m5, m6⟩ := jump_facts hw hL
    have hz := jump_zero hw hL
    obtain ⟨s1, s2, s3⟩ := since_iff hw hd
    have hpos := List.length_pos_iff.2 m3
    obtain ⟨t0, t1, t2, t3⟩ := m6 0 hpos
    have hB0 := Bits_ok t0 t1
    simp only [cWt] at a1 a3
    simp (disch := omega) [cWt, a1, a3, h20, hSl', hpos, m3, m5, -Bool.exists_bool]
    refine lp_loop pl (fun k fr τ => ∃ i : Nat, i + k = L.length ∧ fr = ⟨[(1, .int .i64 n), (2, .ptr (some (0, 0))), (5, vs nl L), (7, .int .i64 d), (8, .int .i64 e), (9, .int .i64 i)], []⟩ ∧ τ.lim = 0 ∧ 1 ≤ τ.next ∧ τ.get 0 = some (.cells (cWt nF nS w)))
      ⟨L.length, 0, by omega, rfl, rfl, by simp, by simp [cWt]⟩ ?_
    rintro k _ τ ⟨i, hi, rfl, q0, qn, qg⟩
    have l0 := AH.get_lt qg
    by_cases hil : i < L.length
    · obtain ⟨ti, u1, u2, u3⟩ := m6 i hil
      have hBi := Bits_ok ti u1
      have hBi' : ans prog O 46 [.int .i64 (nth L i)] = some (.int .i64 m) := by rw [u2, hBi, u3]
      have hB0' : ans prog O 46 [.int .i64 (nth L 0)] = some (.int .i64 m) := by rw [t2, hB0, t3]
      have hm2 : ¬ 2 < (m : Int) := by omega
      simp (disch := omega) [Und, q0, hil, hBi', hB0', hpos, hm2, -Bool.exists_bool]
      exact ⟨k - 1, by omega, i + 1, by omega, by omega, qn, qg⟩
    · obtain rfl : i = L.length := by omega
      have hch := chz_in (l := 2) (h := (w.F.length : Int)) (n := n) (by omega)
      obtain ⟨y, hy⟩ : ∃ y : Nat, chz 2 (w.F.length : Int) n = y := ⟨(chz 2 (w.F.length : Int) n).toNat, by omega⟩
      rw [hy] at hch
      have hcw := cut_ok hw (m := y) (by omega) (by omega)
      obtain ⟨_, ⟨nl', L', rfl, hL'⟩, b1⟩ := JumpedP_ok (nF := nF) (nS := nS) hcw
      obtain ⟨_, ⟨d', e', rfl, hd'⟩, b3⟩ := SinceP_ok (nF := nF) (nS := nS) hcw
      obtain ⟨m', n1, n2, n3, n4, n5, n6⟩ := jump_facts hcw hL'
      have hmm := jump_cut hw (by omega) (by omega) hL hL' m2 n2 n4
      have hsc := since_cut hw (by omega) (by omega) hd hd'
      have hpos' := List.length_pos_iff.2 n3
      have hl' := jo_len hL'
      obtain ⟨t0', t1', t2', t3'⟩ := n6 0 hpos'
      have hB0' : ans prog O 46 [.int .i64 (nth L 0)] = some (.int .i64 m) := by rw [t2, hB0, t3]
      have hB1' : ans prog O 46 [.int .i64 (nth L' 0)] = some (.int .i64 m') := by rw [t2', Bits_ok t0' t1', t3']
      have hmm' : ¬ (m : Int) < m' := by omega
      simp only [cWt, cutW] at b1 b3
      have hτ0 : ¬ 0 = τ.next := by omega
      have hτ1 : ¬ τ.next = 0 := by omega
      rcases s1 with rfl | rfl
      · have hz0 : ¬ nth L 0 = 0 := fun h => s2.1 rfl (hz.1 h)
        obtain ⟨d1, d2⟩ := s3 rfl
        by_cases hdy : d < y
        · rw [if_pos ⟨rfl, hdy⟩] at hsc
          obtain ⟨rfl, rfl⟩ := hsc
          simp (disch := omega) [Und, q0, qg, l0, cWt, hpos, hz0, d1, d2, hy, hSl', b1, b3, n3, hpos', hB0', hB1', hmm', hdy, hτ0, hτ1, -Bool.exists_bool]
          omega
        · rw [if_neg (by omega)] at hsc
          subst hsc
          simp (disch := omega) [Und, q0, qg, l0, cWt, hpos, hz0, d1, d2, hy, hSl', b1, b3, n3, hpos', hB0', hB1', hmm', hdy, hτ0, hτ1, -Bool.exists_bool]
          omega
      · have hz0 : nth L 0 = 0 := hz.2 (Classical.byContradiction fun h => by have := s2.2 h; omega)
        rw [if_neg (by omega)] at hsc
        subst hsc
        rw [hz0] at hB0'
        simp (disch := omega) [Und, q0, qg, l0, cWt, hpos, hz0, hy, hSl', b1, b3, n3, hpos', hB0', hB1', hmm', hτ0, hτ1, -Bool.exists_bool]
        omega
  · have a1 := JumpedX_ok (nF := nF) (nS := nS) hw hF hS
    have a3 := SinceX_ok (nF := nF) (nS := nS) hw hF hS
    simp only [cWt] at a1 a3
    simp (disch := omega) [cWt, a1, a3, -Bool.exists_bool]
theorem ClockLonger_ok (nF nS : Bool) (F S : List Int) (wr : Int) (r0 r1 r2 : Span) (n : Int) {x0 x1 : AV} (h1 : Slice (AV.int .i64) i64 x0 nF F) (h2 : Slice (AV.int .i64) i64 x1 nS S) (hn : i64 n) :
    ans prog O 13 [.agg [vs nF F, vs nS S, .int .i64 wr, .int .i64 r0.lo, .int .i64 r0.hi, .int .i64 r1.lo, .int .i64 r1.hi, .int .i64 r2.lo, .int .i64 r2.hi], .int .i64 n] = some (.bool true) := by
  have := h1.len; have := h2.len
  exact ClockLonger_main nF nS ⟨F, S, wr, r0, r1, r2⟩ n (by show F.length < _; omega) (by show S.length < _; omega)
end Go.Oct.Clock
