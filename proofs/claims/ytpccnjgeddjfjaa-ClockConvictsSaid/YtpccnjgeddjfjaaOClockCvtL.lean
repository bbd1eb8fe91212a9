/- ClockConvicts: who jumped is named. -/
import Derived.Test.YtpccnjgeddjfjaaOClockWatL
import Derived.Test.YtpccnjgeddjfjaaOClockCvtP
set_option maxRecDepth 100000
set_option maxHeartbeats 1000000
set_option linter.unusedVariables false
set_option linter.unusedSimpArgs false
namespace Go.Oct.Clock
open Go.Oct
def rts (r0 r1 r2 : Span) (k : Nat) : Span := if k = 0 then r0 else if k = 1 then r1 else r2
theorem place_in {xs : List Int} {n : Int} (h : n ∈ xs) : 0 ≤ place xs n := by
  unfold place pfrom
  rw [List.drop_zero, if_pos h]
  omega
theorem same_one {σ : AH} {nl : Bool} {i : Nat} {a : Int} {L : List Int} {k : Kn (AV → AH → Prop)} (hi : σ.get i = some (.cells [.int .i64 a])) (hl : L.length < 2 ^ 62) (hk : k.k (.bool (decide (L = [a]))) σ) : @PcI prog O false 25 [vs nl L, .slice (some (i, 0)) 1 (.ex 1)] σ k := by
  have hw : Whole 0 1 (AV.int .i64) σ (.slice (some (i, 0)) 1 (.ex 1)) [a] := ⟨i, .ex 1, rfl, Nat.zero_le _, by rw [hi]; rfl, .inr rfl⟩
  exact pc_scal (.cons (SnapK.snap (SnapK.vl _ _ _ _ _)) (.cons (hw.view.snap encI flatI) .nil)) (fun h => by simp at h) (by simp) (oo (args := []) (by decide)).1 (Same_ok nl false L [a] hl) rfl hk
theorem ClockConvicts_main (r0 r1 r2 : Span) (wr n0 n1 : Int) (nb : Bool) (b : List Int) (hb : b.length < 2 ^ 62) :
    ans prog O 12 [.agg [.int .i64 r0.lo, .int .i64 r0.hi, .int .i64 r1.lo, .int .i64 r1.hi, .int .i64 r2.lo, .int .i64 r2.hi], .int .i64 wr, .agg [.int .i64 n0, .int .i64 n1], vs nb b] = some (.bool true) := by
  refine fn_of' pl get12 (oo (by decide)) rfl rfl ?_
  simp (disch := omega) [-Bool.exists_bool]
  refine lp_loop pl (fun k fr τ => ∃ q : Nat, q + k = 3 ∧ fr = ⟨[(1, .int .i64 (wr % 1001)), (3, vs nb b), (4, .ptr (some (0, 0))), (6, .ptr (some (1, 0))), (9, .int .i64 q)], []⟩ ∧ τ.lim = 0 ∧ 2 ≤ τ.next ∧ τ.get 0 = some (.cells [.int .i64 r0.lo, .int .i64 r0.hi, .int .i64 r1.lo, .int .i64 r1.hi, .int .i64 r2.lo, .int .i64 r2.hi]) ∧ τ.get 1 = some (.cells [.int .i64 n0, .int .i64 n1]) ∧ ∀ k, k < q → rtOK (rts r0 r1 r2 k))
    ⟨3, 0, by omega, rfl, rfl, by simp, by simp, by simp, fun k h => by omega⟩ ?_
  rintro k _ τ ⟨q, hq, rfl, t0, tn, g0, g1, hr⟩
  have l0 := AH.get_lt g0
  have l1 := AH.get_lt g1
  by_cases hq3 : q < 3
  · have hq3' : (q : Int) < 3 := by omega
    have nxt : rtOK (rts r0 r1 r2 q) → ∀ k, k < q + 1 → rtOK (rts r0 r1 r2 k) := fun h k hk => by
      by_cases e : k = q
      · rw [e]; exact h
      · exact hr k (by omega)
    obtain rfl | rfl | rfl : q = 0 ∨ q = 1 ∨ q = 2 := by omega
    · by_cases hx : -100000 ≤ r0.lo ∧ r0.lo ≤ r0.hi ∧ r0.hi ≤ 100000
      · simp (disch := omega) [Und, t0, g0, l0, hx, -Bool.exists_bool]
        exact ⟨k - 1, by omega, 1, by omega, rfl, tn, g1, nxt hx⟩
      · simp (disch := omega) [Und, t0, g0, l0, hx, -Bool.exists_bool]
    · by_cases hx : -100000 ≤ r1.lo ∧ r1.lo ≤ r1.hi ∧ r1.hi ≤ 100000
      · simp (disch := omega) [Und, t0, g0, l0, hx, -Bool.exists_bool]
        exact ⟨k - 1, by omega, 2, by omega, rfl, tn, g1, nxt hx⟩
      · simp (disch := omega) [Und, t0, g0, l0, hx, -Bool.exists_bool]
    · by_cases hx : -100000 ≤ r2.lo ∧ r2.lo ≤ r2.hi ∧ r2.hi ≤ 100000
      · simp (disch := omega) [Und, t0, g0, l0, hx, -Bool.exists_bool]
        exact ⟨k - 1, by omega, 3, by omega, rfl, tn, g1, nxt hx⟩
      · simp (disch := omega) [Und, t0, g0, l0, hx, -Bool.exists_bool]
  · obtain rfl : q = 3 := by omega
    have h0 : rtOK r0 := hr 0 (by omega)
    have h1 : rtOK r1 := hr 1 (by omega)
    have h2 : rtOK r2 := hr 2 (by omega)
    obtain ⟨who, hwho⟩ : ∃ who : Nat, n0 % 3 = who := ⟨(n0 % 3).toNat, by omega⟩
    have hw3 : who < 3 := by omega
    have hjp := chz_in (l := -5000000) (h := 5000000) (n := n1) (by omega)
    have hwr : 0 ≤ wr % 1001 ∧ wr % 1001 ≤ 1000 := by omega
    generalize hW : wr % 1001 = W at *
    generalize hJ : chz (-5000000) 5000000 n1 = jp at *
    have ok0 : okC ⟨r0, r1, r2, W, who, 0, b⟩ := ⟨hwr, hw3, by show -5000000 ≤ (0 : Int) ∧ (0 : Int) ≤ 5000000; omega, h0, h1, h2⟩
    have ok1 : okC ⟨r0, r1, r2, W, who, jp, b⟩ := ⟨hwr, hw3, hjp, h0, h1, h2⟩
    have c0 := compared_ok ok0 nb hb
    have c1 := compared_ok ok1 nb hb
    simp only at c0 c1
    have dd1 := w_days ⟨r0, r1, r2, W, who, jp, b⟩
    have dd0 := w_days ⟨r0, r1, r2, W, who, 0, b⟩
    have dd := days_bd ⟨r0, r1, r2, W, who, jp, b⟩
    have k0 := w_ok ok0
    have k1 := w_ok ok1
    obtain ⟨cm1, cm2⟩ := calm (was ok0 (J := 0) (n := (⟨r0, r1, r2, W, who, 0, b⟩ : Cw).w.F.length) (by rw [dd0]; exact Nat.le_refl _) (.inr (.inl rfl)))
    obtain ⟨_, ⟨nl0, L0, rfl, hL0⟩, a0⟩ := JumpedP_ok (nF := false) (nS := false) k0
    obtain ⟨_, ⟨d0, e0, rfl, hd0⟩, b0⟩ := SinceP_ok (nF := false) (nS := false) k0
    obtain rfl := hL0.uniq cm1
    obtain ⟨rfl, rfl⟩ := hd0.uniq cm2
    obtain ⟨_, ⟨nl, L, rfl, hL⟩, a1⟩ := JumpedP_ok (nF := false) (nS := false) k1
    obtain ⟨_, ⟨d, e, rfl, hd⟩, b1⟩ := SinceP_ok (nF := false) (nS := false) k1
    simp only [cWt] at a0 b0 a1 b1 c0 c1
    simp (disch := omega) [Und, t0, g0, g1, l0, l1, hwho, hJ, c0, a0, b0, -Bool.exists_bool]
    have hu := under_zero t0
    refine same_one (a := 0) (by simp) (by simp) ?_
    obtain ⟨m, m1, m2, m3, m4, m5, m6⟩ := jump_facts k1 hL
    have hz := jump_zero k1 hL
    obtain ⟨s1, s2, s3⟩ := since_iff k1 hd
    rw [dd1] at hz s2 s3
    have hpos := List.length_pos_iff.2 m3
    have hlL := jo_len hL
    have hcw : ans prog O 42 [.agg [.int .i64 r0.lo, .int .i64 r0.hi, .int .i64 r1.lo, .int .i64 r1.hi, .int .i64 r2.lo, .int .i64 r2.hi], .int .i64 W, .int .i64 who, .int .i64 jp, vs nb b] = some (.agg (cWt false false (⟨r0, r1, r2, W, who, jp, b⟩ : Cw).w)) := c1
    have hbd := jump_bd ok1
    have hoj := one_jumped ok1 hL hd
    have hon := on_eq (⟨r0, r1, r2, W, who, jp, b⟩ : Cw)
    have hon2 := on_bd (⟨r0, r1, r2, W, who, jp, b⟩ : Cw)
    have hpk := fun n : Int => Pick_ok nb b n hb
    have hτ0 : ¬ 0 = τ.next := by omega
    have hτ1 : ¬ τ.next = 0 := by omega
    simp only at hbd hon hon2 hoj
    clear c0 c1 ok0 ok1 a0 b0 cm1 cm2 hL0 hd0
    generalize hdy : (⟨r0, r1, r2, W, who, jp, b⟩ : Cw).days = D at *
    generalize hoy : (⟨r0, r1, r2, W, who, jp, b⟩ : Cw).on = N at *
    generalize hwy : (⟨r0, r1, r2, W, who, jp, b⟩ : Cw).w = w1 at *
    have key : ∀ z : Int, z = who → n0 % 3 = z ∧ ans prog O 42 [.agg [.int .i64 r0.lo, .int .i64 r0.hi, .int .i64 r1.lo, .int .i64 r1.hi, .int .i64 r2.lo, .int .i64 r2.hi], .int .i64 W, .int .i64 z, .int .i64 jp, vs nb b] = some (.agg (cWt false false w1)) := by
      rintro _ rfl
      exact ⟨hwho, hcw⟩
    clear hwho hcw
    by_cases hcan : canBe w1 0 D
    · have hz0 := hz.2 hcan
      have he4 : e = 4 := by
        rcases s1 with h | h
        · exact absurd hcan (s2.1 h)
        · exact h
      subst he4
      have hL0 : L = [0] := hL.uniq (calm (by rw [dd1]; exact hcan)).1
      subst hL0
      have hbd := hbd hcan
      obtain rfl | rfl | rfl : who = 0 ∨ who = 1 ∨ who = 2 := by omega
      · obtain ⟨k4, k5⟩ := key 0 rfl
        simp only [cWt] at k5
        have hbd' : max jp (-jp) ≤ r0.hi - r0.lo + r1.hi - r1.lo + 8 * W := hbd
        have h0' := h0; have h1' := h1; have h2' := h2
        unfold rtOK at h0' h1' h2'
        simp (disch := omega) [hu, t0, g0, g1, l0, l1, hτ0, hτ1, k4, k5, a1, b1, hbd', -Bool.exists_bool]
      · obtain ⟨k4, k5⟩ := key 1 rfl
        simp only [cWt] at k5
        have hbd' : max jp (-jp) ≤ r1.hi - r1.lo + r2.hi - r2.lo + 8 * W := hbd
        have h0' := h0; have h1' := h1; have h2' := h2
        unfold rtOK at h0' h1' h2'
        simp (disch := omega) [hu, t0, g0, g1, l0, l1, hτ0, hτ1, k4, k5, a1, b1, hbd', -Bool.exists_bool]
      · obtain ⟨k4, k5⟩ := key 2 rfl
        simp only [cWt] at k5
        have hbd' : max jp (-jp) ≤ r2.hi - r2.lo + r0.hi - r0.lo + 8 * W := hbd
        have h0' := h0; have h1' := h1; have h2' := h2
        unfold rtOK at h0' h1' h2'
        simp (disch := omega) [hu, t0, g0, g1, l0, l1, hτ0, hτ1, k4, k5, a1, b1, hbd', -Bool.exists_bool]
    · have hz0 : ¬ nth L 0 = 0 := fun h => hcan (hz.1 h)
      obtain rfl := s2.2 hcan
      obtain ⟨q1, q2, q3, q4⟩ := hoj hcan
      have hpl := place_in q1
      have hon' : 1 + nth b (1 % (b.length : Int)).toNat % ((D : Int) - 1) = N := hon.symm
      obtain rfl | rfl | rfl : who = 0 ∨ who = 1 ∨ who = 2 := by omega
      · obtain ⟨k4, k5⟩ := key 0 rfl
        simp only [cWt] at k5
        have hpl' : 0 ≤ place L 1 := hpl
        have hsh : abin .shl (.int .i64 1) (.int .i64 0) = some (.int .i64 1) := rfl
        simp (disch := omega) [hu, t0, g0, g1, l0, l1, hτ0, hτ1, k4, k5, a1, b1, hz0, hpos, m3, hsh, hpl', -Bool.exists_bool]
        rw [dd1, hon', w64_id _ (by omega) (by omega)]
        omega
      · obtain ⟨k4, k5⟩ := key 1 rfl
        simp only [cWt] at k5
        have hpl' : 0 ≤ place L 2 := hpl
        have hsh : abin .shl (.int .i64 1) (.int .i64 1) = some (.int .i64 2) := rfl
        simp (disch := omega) [hu, t0, g0, g1, l0, l1, hτ0, hτ1, k4, k5, a1, b1, hz0, hpos, m3, hsh, hpl', -Bool.exists_bool]
        rw [dd1, hon', w64_id _ (by omega) (by omega)]
        omega
      · obtain ⟨k4, k5⟩ := key 2 rfl
        simp only [cWt] at k5
        have hpl' : 0 ≤ place L 4 := hpl
        have hsh : abin .shl (.int .i64 1) (.int .i64 2) = some (.int .i64 4) := rfl
        simp (disch := omega) [hu, t0, g0, g1, l0, l1, hτ0, hτ1, k4, k5, a1, b1, hz0, hpos, m3, hsh, hpl', -Bool.exists_bool]
        rw [dd1, hon', w64_id _ (by omega) (by omega)]
        omega
theorem ClockConvicts_ok (r0 r1 r2 : Span) (wr n0 n1 : Int) (nb : Bool) (b : List Int) {x : AV} (h1 : i64 wr) (h2 : i64 n0) (h3 : i64 n1) (h4 : Slice (AV.int .i64) i64 x nb b) :
    ans prog O 12 [.agg [.int .i64 r0.lo, .int .i64 r0.hi, .int .i64 r1.lo, .int .i64 r1.hi, .int .i64 r2.lo, .int .i64 r2.hi], .int .i64 wr, .agg [.int .i64 n0, .int .i64 n1], vs nb b] = some (.bool true) := by
  have := h4.len
  exact ClockConvicts_main r0 r1 r2 wr n0 n1 nb b (by omega)
end Go.Oct.Clock
