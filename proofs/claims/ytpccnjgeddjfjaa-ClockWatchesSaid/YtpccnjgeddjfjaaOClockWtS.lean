/- Watches: the specification's Jumped and Since. -/
import Derived.Test.YtpccnjgeddjfjaaOClockWtR
set_option maxRecDepth 100000
set_option maxHeartbeats 400000
set_option linter.unusedVariables false
set_option linter.unusedSimpArgs false
namespace Go.Oct.Clock
open Go.Oct
open Classical in
/-- With all three clocks as jumpers a watch can be. -/
theorem can7 (w : Wt) (hw : okWt w) (n : Nat) : canBe w 7 n := by
  have h2 := hw.1.2.2
  refine ⟨fun k d => if k = 0 then nth w.F d + nth w.S d else if k = 1 then nth w.S d else 0, fun d hd => ?_, fun d hd => ?_, fun d k h0 hd hk hj => ?_⟩
  · simp; omega
  · simp; omega
  · exfalso
    obtain rfl | rfl | rfl : k = 0 ∨ k = 1 ∨ k = 2 := by omega
    · revert hj; decide
    · revert hj; decide
    · revert hj; decide
def pc (s : Nat) : Nat := s % 2 + s / 2 % 2 + s / 4 % 2
def cntB (s : Nat) : Nat → Nat
  | 0 => 0
  | n + 1 => cntB s n + if s / 2 ^ n % 2 = 1 then 1 else 0
theorem cntB_le (s : Nat) : ∀ n, cntB s n ≤ n
  | 0 => Nat.le_refl _
  | n + 1 => by
    have := cntB_le s n
    simp only [cntB]
    split <;> omega
theorem cntB_all : ∀ s, s < 8 → cntB s 62 = pc s := by decide +kernel
theorem Bits_ok (s : Nat) (hs : s < 8) : ans prog O 46 [.int .i64 s] = some (.int .i64 (pc s)) := by
  refine fn_of' pl get46 (oo (by decide)) rfl rfl ?_
  simp (disch := omega) [-Bool.exists_bool]
  refine lp_loop pl (fun k fr σ => ∃ n : Nat, n + k = 62 ∧ fr = ⟨[(0, .int .i64 s), (3, .int .i64 (cntB s n)), (4, .int .i64 n)], []⟩ ∧ σ.lim = 0) ⟨62, 0, by omega, rfl, rfl⟩ ?_
  rintro k _ σ ⟨n, hn, rfl, hl0⟩
  have hle := cntB_le s n
  by_cases h62 : n < 62
  · have hlt : (n : Int) < 62 := by omega
    have hb := Bit_ok s n (by omega)
    have hst : cntB s (n + 1) = cntB s n + if s / 2 ^ n % 2 = 1 then 1 else 0 := rfl
    by_cases h1 : s / 2 ^ n % 2 = 1
    · rw [decide_eq_true h1] at hb
      rw [if_pos h1] at hst
      simp (disch := omega) [Und, hl0, hlt, hb, -Bool.exists_bool]
      exact ⟨k - 1, by omega, n + 1, by omega, by rw [hst]; omega, by omega⟩
    · rw [decide_eq_false h1] at hb
      rw [if_neg h1] at hst
      simp (disch := omega) [Und, hl0, hlt, hb, -Bool.exists_bool]
      exact ⟨k - 1, by omega, n + 1, by omega, by rw [hst]; omega, by omega⟩
  · obtain rfl : n = 62 := by omega
    rw [cntB_all s hs]
    simp (disch := omega) [Und, hl0, -Bool.exists_bool]
theorem isWatch_ok (nF nS : Bool) (w : Wt) (hF : w.F.length < 2 ^ 62) (hS : w.S.length < 2 ^ 62) : ans prog O 78 [.agg (cWt nF nS w)] = some (.bool (decide (okWt w))) := by
  refine fn_of' pl get78 (oo (by decide)) rfl rfl ?_
  have tailF : ∀ P : Prop, P → P := fun _ h => h
  by_cases h0 : (2 ≤ (w.F.length : Int) ∧ (w.F.length : Int) ≤ 20) ∧ (w.S.length : Int) = w.F.length ∧ 0 ≤ w.wr ∧ w.wr ≤ 1000
  · obtain ⟨h1, h2, h3⟩ := h0
    have h2' : w.S.length = w.F.length := by omega
    simp (disch := omega) [cWt, h1, h2', h3, -Bool.exists_bool]
    refine lp_loop pl (fun k fr σ => ∃ (i : Nat) (b : Bool), i + k = w.F.length ∧ fr = ⟨[(1, .ptr (some (0, 0))), (3, .bool b), (4, .int .i64 i)], []⟩ ∧ σ.lim = 0 ∧ σ.get 0 = some (.cells (cWt nF nS w)) ∧ (b = true ↔ ∀ q, q < i → inB (nth w.F q) ∧ inB (nth w.S q)))
      ⟨w.F.length, 0, true, by omega, rfl, rfl, by simp [cWt], ⟨fun _ q hq => by omega, fun _ => rfl⟩⟩ ?_
    rintro k _ σ ⟨i, b, hi, rfl, hl0, g0, hb⟩
    have m0 := AH.get_lt g0
    by_cases hgo : b = true ∧ i < w.F.length
    · obtain ⟨rfl, hil⟩ := hgo
      have hiS : i < w.S.length := by omega
      have hq := hb.1 rfl
      by_cases c1 : -1000000000 ≤ nth w.F i ∧ nth w.F i ≤ 1000000000
      · by_cases c2 : -1000000000 ≤ nth w.S i ∧ nth w.S i ≤ 1000000000
        · simp (disch := omega) [Und, hl0, g0, m0, cWt, hil, hiS, c1, c2, -Bool.exists_bool]
          exact ⟨k - 1, by omega, i + 1, by omega, true, ⟨rfl, by omega⟩, fun _ q hq' => by
            by_cases e : q = i
            · subst e; exact ⟨c1, c2⟩
            · exact hq q (by omega), fun _ => rfl⟩
        · simp (disch := omega) [Und, hl0, g0, m0, cWt, hil, hiS, c1, c2, -Bool.exists_bool]
          exact ⟨k - 1, by omega, i + 1, by omega, false, ⟨rfl, by omega⟩, (fun h => by cases h), fun h => absurd (h i (by omega)).2 c2⟩
      · simp (disch := omega) [Und, hl0, g0, m0, cWt, hil, hiS, c1, -Bool.exists_bool]
        exact ⟨k - 1, by omega, i + 1, by omega, false, ⟨rfl, by omega⟩, (fun h => by cases h), fun h => absurd (h i (by omega)).1 c1⟩
    · cases b with
      | true =>
        obtain rfl : i = w.F.length := by
          have : ¬ i < w.F.length := fun h => hgo ⟨rfl, h⟩
          omega
        have hall := hb.1 rfl
        simp (disch := omega) [Und, hl0, g0, m0, cWt, -Bool.exists_bool]
        refine lp_loop pl (fun k fr σ => ∃ (j : Nat) (b : Bool), j + k = 3 ∧ fr = ⟨[(1, .ptr (some (0, 0))), (3, .bool b), (5, .int .i64 j)], []⟩ ∧ σ.lim = 0 ∧ σ.get 0 = some (.cells (cWt nF nS w)) ∧ (b = true ↔ ∀ q, q < j → rtOK (w.rt q)))
          ⟨3, 0, true, by omega, rfl, hl0, g0, ⟨fun _ q hq => by omega, fun _ => rfl⟩⟩ ?_
        clear hl0 g0 m0
        rintro k2 _ σ2 ⟨j, c, hj, rfl, hl0, g0, hc⟩
        have m0 := AH.get_lt g0
        cases c with
        | true =>
          have hq := hc.1 rfl
          by_cases hj3 : j < 3
          · have nxt : ∀ (z : Int), z = (j : Int) + 1 → ∀ b' : Bool, b' = decide (rtOK (w.rt j)) → ∃ j_1, j_1 < k2 ∧ ∃ j_2, j_2 + j_1 = 3 ∧ ∃ x, (b' = x ∧ z = (j_2 : Nat)) ∧ (x = true ↔ ∀ q, q < j_2 → rtOK (w.rt q)) := fun z hz b' hb' => by
              refine ⟨k2 - 1, by omega, j + 1, by omega, b', ⟨rfl, by omega⟩, ?_⟩
              rw [hb', decide_eq_true_eq]
              constructor
              · intro h q hq'
                by_cases e : q = j
                · subst e; exact h
                · exact hq q (by omega)
              · intro h; exact h j (by omega)
            obtain rfl | rfl | rfl : j = 0 ∨ j = 1 ∨ j = 2 := by omega
            · simp (disch := omega) [Und, hl0, g0, m0, cWt, -Bool.exists_bool]
              exact nxt 1 rfl _ (by rw [Bool.eq_iff_iff]; simp [rtOK, Wt.rt])
            · simp (disch := omega) [Und, hl0, g0, m0, cWt, -Bool.exists_bool]
              exact nxt 2 rfl _ (by rw [Bool.eq_iff_iff]; simp [rtOK, Wt.rt])
            · simp (disch := omega) [Und, hl0, g0, m0, cWt, -Bool.exists_bool]
              exact nxt 3 rfl _ (by rw [Bool.eq_iff_iff]; simp [rtOK, Wt.rt])
          · obtain rfl : j = 3 := by omega
            have hok : okWt w := ⟨⟨h1, h2, h3⟩, hall, hq 0 (by omega), hq 1 (by omega), hq 2 (by omega)⟩
            simp (disch := omega) [Und, hl0, hok, -Bool.exists_bool]
        | false =>
          have hok : ¬ okWt w := fun h => by
            have := hc.2 fun q hq => rt_ok h q
            cases this
          simp (disch := omega) [Und, hl0, hok, -Bool.exists_bool]
      | false =>
        have hok : ¬ okWt w := fun h => by
          have := hb.2 fun q hq => h.2.1 q (by omega)
          cases this
        simp (disch := omega) [Und, hl0, -Bool.exists_bool]
        refine lp_loop pl (fun k fr σ => k = 0 ∧ fr = ⟨[(1, .ptr (some (0, 0))), (3, .bool false), (5, .int .i64 0)], []⟩ ∧ σ.lim = 0) ⟨0, rfl, rfl, hl0⟩ ?_
        clear hl0
        rintro k2 _ σ2 ⟨rfl, rfl, hl0⟩
        simp (disch := omega) [Und, hl0, hok, -Bool.exists_bool]
  · have hok : ¬ okWt w := fun h => h0 h.1
    by_cases c1 : 2 ≤ (w.F.length : Int) ∧ (w.F.length : Int) ≤ 20
    · by_cases c2 : w.S.length = w.F.length
      · have c3 : ¬ (0 ≤ w.wr ∧ w.wr ≤ 1000) := fun h => h0 ⟨c1, by omega, h⟩
        simp (disch := omega) [cWt, c1, c2, c3, -Bool.exists_bool]
        refine lp_loop pl (fun k fr σ => k = 0 ∧ fr = ⟨[(1, .ptr (some (0, 0))), (3, .bool false), (4, .int .i64 0)], []⟩ ∧ σ.lim = 0) ⟨0, rfl, rfl, rfl⟩ ?_
        rintro k2 _ σ2 ⟨rfl, rfl, hl0⟩
        simp (disch := omega) [Und, hl0, -Bool.exists_bool]
        refine lp_loop pl (fun k fr σ => k = 0 ∧ fr = ⟨[(1, .ptr (some (0, 0))), (3, .bool false), (5, .int .i64 0)], []⟩ ∧ σ.lim = 0) ⟨0, rfl, rfl, hl0⟩ ?_
        clear hl0
        rintro k2 _ σ3 ⟨rfl, rfl, hl0⟩
        simp (disch := omega) [Und, hl0, hok, -Bool.exists_bool]
      · have c2' : ¬ (w.S.length : Int) = w.F.length := by omega
        simp (disch := omega) [cWt, c1, c2', -Bool.exists_bool]
        refine lp_loop pl (fun k fr σ => k = 0 ∧ fr = ⟨[(1, .ptr (some (0, 0))), (3, .bool false), (4, .int .i64 0)], []⟩ ∧ σ.lim = 0) ⟨0, rfl, rfl, rfl⟩ ?_
        rintro k2 _ σ2 ⟨rfl, rfl, hl0⟩
        simp (disch := omega) [Und, hl0, -Bool.exists_bool]
        refine lp_loop pl (fun k fr σ => k = 0 ∧ fr = ⟨[(1, .ptr (some (0, 0))), (3, .bool false), (5, .int .i64 0)], []⟩ ∧ σ.lim = 0) ⟨0, rfl, rfl, hl0⟩ ?_
        clear hl0
        rintro k2 _ σ3 ⟨rfl, rfl, hl0⟩
        simp (disch := omega) [Und, hl0, hok, -Bool.exists_bool]
    · simp (disch := omega) [cWt, c1, -Bool.exists_bool]
      refine lp_loop pl (fun k fr σ => k = 0 ∧ fr = ⟨[(1, .ptr (some (0, 0))), (3, .bool false), (4, .int .i64 0)], []⟩ ∧ σ.lim = 0) ⟨0, rfl, rfl, rfl⟩ ?_
      rintro k2 _ σ2 ⟨rfl, rfl, hl0⟩
      simp (disch := omega) [Und, hl0, -Bool.exists_bool]
      refine lp_loop pl (fun k fr σ => k = 0 ∧ fr = ⟨[(1, .ptr (some (0, 0))), (3, .bool false), (5, .int .i64 0)], []⟩ ∧ σ.lim = 0) ⟨0, rfl, rfl, hl0⟩ ?_
      clear hl0
      rintro k2 _ σ3 ⟨rfl, rfl, hl0⟩
      simp (disch := omega) [Und, hl0, hok, -Bool.exists_bool]
open Classical in
/-- The sets of so many jumpers with which a watch can be, of the sets below one. -/
noncomputable def jl (w : Wt) (m : Nat) : Nat → List Int
  | 0 => []
  | s + 1 => jl w m s ++ if pc s = m ∧ canBe w s w.F.length then [(s : Int)] else []
theorem jl_yes {w : Wt} {m s : Nat} (h : pc s = m ∧ canBe w s w.F.length) : jl w m (s + 1) = jl w m s ++ [(s : Int)] := by
  simp only [jl]
  rw [if_pos h]
theorem jl_no {w : Wt} {m s : Nat} (h : ¬ (pc s = m ∧ canBe w s w.F.length)) : jl w m (s + 1) = jl w m s := by
  simp only [jl]
  rw [if_neg h, List.append_nil]
theorem jl_len (w : Wt) (m : Nat) : ∀ s, (jl w m s).length ≤ s
  | 0 => Nat.le_refl _
  | s + 1 => by
    have := jl_len w m s
    simp only [jl, List.length_append]
    split
    · simp; omega
    · simp; omega
def JumpOf (w : Wt) (L : List Int) : Prop := ∃ m, m ≤ 3 ∧ L = jl w m 8 ∧ L ≠ [] ∧ ∀ m', m' < m → jl w m' 8 = []
theorem JumpOf.uniq {w : Wt} {L L' : List Int} (h : JumpOf w L) (h' : JumpOf w L') : L = L' := by
  obtain ⟨m, _, h2, h3, h4⟩ := h
  obtain ⟨n, _, k2, k3, k4⟩ := h'
  rcases Nat.lt_trichotomy m n with e | e | e
  · have := k4 m e; rw [← h2] at this; exact absurd this h3
  · subst e; rw [h2, k2]
  · have := h4 n e; rw [← k2] at this; exact absurd this k3
theorem jl7 {w : Wt} (hw : okWt w) : jl w 3 8 ≠ [] := by
  rw [jl_yes ⟨by decide, can7 w hw _⟩]
  simp
def SinceOf (w : Wt) (d e : Int) : Prop := (∃ n : Nat, n < w.F.length ∧ d = n ∧ e = 0 ∧ ¬ canBe w 0 (n + 1) ∧ ∀ i, i < n → canBe w 0 (i + 1)) ∨ (d = 0 ∧ e = 4 ∧ ∀ i, i < w.F.length → canBe w 0 (i + 1))
theorem SinceOf.uniq {w : Wt} {d e d' e' : Int} (h : SinceOf w d e) (h' : SinceOf w d' e') : d = d' ∧ e = e' := by
  rcases h with ⟨n, h1, h2, h3, h4, h5⟩ | ⟨h1, h2, h3⟩ <;> rcases h' with ⟨m, k1, k2, k3, k4, k5⟩ | ⟨k1, k2, k3⟩
  · rcases Nat.lt_trichotomy n m with c | c | c
    · exact absurd (k5 n c) h4
    · subst c; omega
    · exact absurd (h5 m c) k4
  · exact absurd (k3 n h1) h4
  · exact absurd (h3 m k1) k4
  · omega
theorem SinceR_ok {nF nS : Bool} {w : Wt} (hw : okWt w) : ∃ v, (∃ d e : Int, v = .tuple [.int .i64 d, .int .i64 e] ∧ SinceOf w d e) ∧ ans prog O 31 [.agg (cWt nF nS w)] = some v := by
  have h20 := hw.1.1
  have hSl := hw.1.2.1
  have h1 := isWatch_ok nF nS w (by omega) (by omega)
  rw [decide_eq_true hw] at h1
  refine fn_ex pl _ get31 (oo (by decide)) rfl rfl ?_
  have h1' := h1
  simp only [cWt] at h1'
  simp (disch := omega) [cWt, h1', -Bool.exists_bool]
  refine lp_loop pl (fun k fr σ => ∃ d : Nat, d + k = w.F.length ∧ fr = ⟨[(1, .ptr (some (0, 0))), (4, .int .i64 d)], []⟩ ∧ σ.lim = 0 ∧ σ.get 0 = some (.cells (cWt nF nS w)) ∧ ∀ i, i < d → canBe w 0 (i + 1)) ⟨w.F.length, 0, by omega, rfl, rfl, by simp [cWt], fun i hi => by omega⟩ ?_
  rintro k _ σ ⟨d, hd, rfl, hl0, g0, hall⟩
  have m0 := AH.get_lt g0
  by_cases hdl : d < w.F.length
  · obtain ⟨_, ⟨b, rfl, hb⟩, hc⟩ := CanR_ok (nF := nF) (nS := nS) hw (n := d + 1) (J := 0) (by omega) (by omega) (by omega)
    have hc' : ans prog O 79 [.agg (cWt nF nS w), .int .i64 ((d : Int) + 1), .int .i64 0] = some (.bool b) := hc
    simp only [cWt] at hc'
    cases b with
    | true =>
      have hcb := hb.1 rfl
      simp (disch := omega) [Und, hl0, g0, m0, cWt, hdl, hc', -Bool.exists_bool]
      exact ⟨k - 1, by omega, d + 1, by omega, by omega, fun i hi => by
        by_cases e : i = d
        · subst e; exact hcb
        · exact hall i (by omega)⟩
    | false =>
      have hcb : ¬ canBe w 0 (d + 1) := fun h => by have := hb.2 h; cases this
      simp (disch := omega) [Und, hl0, g0, m0, cWt, hdl, hc', -Bool.exists_bool]
      exact ⟨d, 0, ⟨rfl, rfl⟩, .inl ⟨d, hdl, rfl, rfl, hcb, hall⟩⟩
  · obtain rfl : d = w.F.length := by omega
    simp (disch := omega) [Und, hl0, g0, m0, cWt, -Bool.exists_bool]
    exact ⟨0, 4, ⟨rfl, rfl⟩, .inr ⟨rfl, rfl, hall⟩⟩
theorem JumpedR_ok {nF nS : Bool} {w : Wt} (hw : okWt w) : ∃ v, (∃ L : List Int, v = .tuple [vs L.isEmpty L, .int .i64 0] ∧ JumpOf w L) ∧ ans prog O 29 [.agg (cWt nF nS w)] = some v := by
  have h20 := hw.1.1
  have hSl := hw.1.2.1
  have h1 := isWatch_ok nF nS w (by omega) (by omega)
  rw [decide_eq_true hw] at h1
  refine fn_ex pl _ get29 (oo (by decide)) rfl rfl ?_
  have h1' := h1
  simp only [cWt] at h1'
  simp (disch := omega) [cWt, h1', -Bool.exists_bool]
  refine lp_loop pl (fun k fr σ => ∃ m : Nat, m + k = 4 ∧ fr = ⟨[(1, .ptr (some (0, 0))), (4, .int .i64 m)], []⟩ ∧ σ.lim = 0 ∧ 1 ≤ σ.next ∧ σ.get 0 = some (.cells (cWt nF nS w)) ∧ ∀ m', m' < m → jl w m' 8 = []) ⟨4, 0, by omega, rfl, rfl, by simp, by simp [cWt], fun i hi => by omega⟩ ?_
  rintro k _ σ ⟨m, hm, rfl, hl0, hnx, g0, hall⟩
  have m0 := AH.get_lt g0
  by_cases hm3 : m ≤ 3
  · have hm3' : (m : Int) ≤ 3 := by omega
    simp (disch := omega) [Und, hl0, hm3', -Bool.exists_bool]
    refine lp_loop pl (fun k2 fr τ => ∃ (s : Nat) (v : AV), s + k2 = 8 ∧ fr = ⟨[(1, .ptr (some (0, 0))), (4, .int .i64 m), (5, v), (6, .int .i64 s)], []⟩ ∧ τ.lim = 0 ∧ 1 ≤ τ.next ∧ τ.get 0 = some (.cells (cWt nF nS w)) ∧ Buf 1 1 (AV.int .i64) τ v (jl w m s)) ⟨8, 0, .vsl true [], by omega, rfl, hl0, hnx, g0, Buf.nil⟩ ?_
    clear hl0 hnx g0 m0
    rintro k2 _ τ ⟨s, v, hs, rfl, hl0, hnx, g0, hb⟩
    have m0 := AH.get_lt g0
    by_cases hs8 : s < 8
    · have hs8' : (s : Int) < 8 := by omega
      have hbt := Bits_ok s hs8
      obtain ⟨_, ⟨b, rfl, hbb⟩, hc⟩ := CanR_ok (nF := nF) (nS := nS) hw (n := w.F.length) (J := s) (by omega) (by omega) hs8
      simp only [cWt] at hc
      have hjl := jl_len w m s
      by_cases c1 : pc s = m
      · cases b with
        | true =>
          have hst := jl_yes ⟨c1, hbb.1 rfl⟩
          simp (disch := omega) [Und, hl0, g0, m0, cWt, hs8', hbt, c1, hc, -Bool.exists_bool]
          refine hb.push encI (by omega) (by omega) (s : Int) (by simp only [topBytes]; omega) rfl fun v' τ' h3 h4 => ?_
          have zl := h4.lim
          have zn := h4.next
          simp (disch := omega) [-Bool.exists_bool]
          exact ⟨k2 - 1, by omega, s + 1, by omega, v', ⟨rfl, by omega⟩, by omega, by omega, (h4.get 0 (by omega)).trans g0, by rw [hst]; exact h3⟩
        | false =>
          have hst := jl_no (w := w) (m := m) (s := s) fun h => by have := hbb.2 h.2; cases this
          simp (disch := omega) [Und, hl0, g0, m0, cWt, hs8', hbt, c1, hc, -Bool.exists_bool]
          exact ⟨k2 - 1, by omega, s + 1, by omega, v, ⟨rfl, by omega⟩, hnx, by rw [hst]; exact hb⟩
      · have c1' : ¬ (pc s : Int) = m := by omega
        have hst := jl_no (w := w) (m := m) (s := s) fun h => c1 h.1
        simp (disch := omega) [Und, hl0, g0, m0, cWt, hs8', hbt, c1', -Bool.exists_bool]
        exact ⟨k2 - 1, by omega, s + 1, by omega, v, ⟨rfl, by omega⟩, hnx, by rw [hst]; exact hb⟩
    · obtain rfl : s = 8 := by omega
      have hvl := hb.len
      have hA := jl_len w m 8
      generalize hAA : jl w m 8 = A at *
      by_cases hn : A = []
      · have hvl0 : alen v = some (.int .i64 0) := by rw [hvl, hn]; rfl
        simp (disch := omega) [Und, hl0, hvl0, hn, -Bool.exists_bool]
        exact ⟨k - 1, by omega, m + 1, by omega, by omega, hnx, g0, fun m' h' => by
          by_cases e : m' = m
          · subst e; exact hAA.trans hn
          · exact hall m' (by omega)⟩
      · have hpos : 0 < A.length := by
          cases A with
          | nil => exact absurd rfl hn
          | cons => simp
        simp (disch := omega) [Und, hl0, hvl, hpos, -Bool.exists_bool]
        exact ⟨A, hb.fzI 5, m, hm3, hAA.symm, hn, hall⟩
  · exact absurd (hall 3 (by omega)) (jl7 hw)
end Go.Oct.Clock
