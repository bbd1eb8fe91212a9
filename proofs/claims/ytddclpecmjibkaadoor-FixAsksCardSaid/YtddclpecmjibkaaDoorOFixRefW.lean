/- Logs: the specification's check. -/
import Derived.Test.YtddclpecmjibkaaDoorOFixSeaD
set_option maxRecDepth 100000
set_option maxHeartbeats 8000000
set_option linter.unusedVariables false
set_option linter.unusedSimpArgs false
namespace Go.Oct.Fix
open Go.Oct
theorem rline_ok (a b : Int) : ans prog O 81 [.int .i64 a, .int .i64 b] = some (.bool (decide (okLine a b))) := by
  refine fn_of' pl get81 (oo (by decide)) rfl rfl ?_
  by_cases h1 : -20 ≤ a ∧ a ≤ 20
  · by_cases h2 : -20 ≤ b ∧ b ≤ 20
    · by_cases h3 : a = 0
      · by_cases h4 : b = 0
        · have hno : ¬ okLine a b := fun h => by have := h.2.2; omega
          simp (disch := omega) [eq_true h1, eq_true h2, eq_true h3, eq_true h4, hno, Und, -Bool.exists_bool]
        · have hy : okLine a b := ⟨h1, h2, .inr h4⟩
          simp (disch := omega) [eq_true h1, eq_true h2, eq_true h3, h4, hy, Und, -Bool.exists_bool]
      · have hy : okLine a b := ⟨h1, h2, .inl h3⟩
        simp (disch := omega) [eq_true h1, eq_true h2, h3, hy, Und, -Bool.exists_bool]
    · have hno : ¬ okLine a b := fun h => h2 h.2.1
      simp (disch := omega) [eq_true h1, eq_false h2, hno, Und, -Bool.exists_bool]
  · have hno : ¬ okLine a b := fun h => h1 h.1
    simp (disch := omega) [eq_false h1, hno, Und, -Bool.exists_bool]
theorem rspan_ok (lo hi l h : Int) : ans prog O 45 [.agg [.int .i64 lo, .int .i64 hi], .int .i64 l, .int .i64 h] = some (.bool (decide (isSp ⟨lo, hi⟩ l h))) := by
  rw [Spanned_ok]
  rfl
theorem rstep_ok (s : Stp) (hl : s.cl.length < 2 ^ 62) : ans prog O 68 [eStp s] = some (.bool (decide (okStp s))) := by
  have hln := rline_ok s.a s.b
  have hv := rspan_ok s.vlo s.vhi (-10000) 10000
  have he := rspan_ok s.elo s.ehi (-60) 60
  have hn := rspan_ok s.nlo s.nhi (-60) 60
  refine fn_of' pl get68 (oo (by decide)) rfl rfl ?_
  by_cases k1 : s.k = 1
  · simp (disch := omega) [eStp, k1, hln, hv, Und, -Spanned_ok, -Bool.exists_bool]
    rw [Bool.eq_iff_iff, decide_eq_true_eq]
    simp only [Bool.and_eq_true, decide_eq_true_eq]
    constructor
    · rintro ⟨⟨⟨⟨h1, h2⟩, h3, h4⟩, h5, h6⟩, h7⟩
      exact .inl ⟨k1, h1, h2, ⟨⟨h3, h4⟩, h5, h6⟩, by rw [h7]; rfl⟩
    · rintro (⟨_, h1, h2, ⟨⟨h3, h4⟩, h5, h6⟩, h7⟩ | h | h)
      · exact ⟨⟨⟨⟨h1, h2⟩, h3, h4⟩, h5, h6⟩, List.length_eq_zero_iff.1 h7⟩
      · omega
      · omega
  · by_cases k2 : s.k = 2
    · simp (disch := omega) [eStp, k2, he, hn, Und, -Spanned_ok, -Bool.exists_bool]
      rw [Bool.eq_iff_iff, decide_eq_true_eq]
      simp only [Bool.and_eq_true, decide_eq_true_eq]
      constructor
      · rintro ⟨⟨⟨⟨⟨h1, h2⟩, h3, h4⟩, h5⟩, h6⟩, h7⟩
        exact .inr (.inl ⟨k2, ⟨h1, h2⟩, ⟨h3, h4⟩, h5, h6, by rw [h7]; rfl⟩)
      · rintro (h | ⟨_, ⟨h1, h2⟩, ⟨h3, h4⟩, h5, h6, h7⟩ | h)
        · omega
        · exact ⟨⟨⟨⟨⟨h1, h2⟩, h3, h4⟩, h5⟩, h6⟩, List.length_eq_zero_iff.1 h7⟩
        · omega
    · by_cases k3 : s.k = 3
      · simp (disch := omega) [eStp, k3, Und, -Spanned_ok, -Bool.exists_bool]
        generalize hb : ((_ && _ : Bool)) = b0
        have hC : b0 = true ↔ ((s.a = 0 ∧ s.b = 0) ∧ noV s ∧ still s ∧ s.cl.length = 3) := by
          rw [← hb]
          simp only [Bool.and_eq_true, decide_eq_true_eq]
          unfold noV still
          constructor
          · rintro ⟨⟨⟨⟨⟨h1, h2⟩, h3, h4⟩, h5, h6⟩, h7, h8⟩, h9⟩
            exact ⟨⟨h1, h2⟩, ⟨h3, h4⟩, ⟨⟨h5, h6⟩, h7, h8⟩, by omega⟩
          · rintro ⟨⟨h1, h2⟩, ⟨h3, h4⟩, ⟨⟨h5, h6⟩, h7, h8⟩, h9⟩
            exact ⟨⟨⟨⟨⟨h1, h2⟩, h3, h4⟩, h5, h6⟩, h7, h8⟩, by omega⟩
        clear hb
        have hok3 : okStp s ↔ b0 = true ∧ ∀ j, j < 3 → isSp (nth s.cl j) (-10000) 10000 := by
          rw [hC]
          constructor
          · rintro (h | h | h)
            · omega
            · omega
            · exact ⟨⟨h.2.1, h.2.2.1, h.2.2.2.1, h.2.2.2.2.1⟩, h.2.2.2.2.2⟩
          · rintro ⟨⟨h1, h2, h3, h4⟩, h5⟩
            exact .inr (.inr ⟨k3, h1, h2, h3, h4, h5⟩)
        refine lp_loop pl (fun k fr σ => ∃ (i : Nat) (b : Bool), i + k = 3 ∧ fr = ⟨[(1, .ptr (some (0, 0))), (4, .bool b), (5, .int .i64 i)], []⟩ ∧ (b = true ↔ b0 = true ∧ ∀ j, j < i → isSp (nth s.cl j) (-10000) 10000) ∧ σ.lim = 0 ∧ σ.get 0 = some (.cells [.int .i64 3, .int .i64 s.a, .int .i64 s.b, .int .i64 s.vlo, .int .i64 s.vhi, .int .i64 s.elo, .int .i64 s.ehi, .int .i64 s.nlo, .int .i64 s.nhi, vl eSpan s.cn s.cl]))
          ⟨3, 0, b0, by omega, rfl, ⟨fun h => ⟨h, fun j hj => by omega⟩, fun h => h.1⟩, by simp, by simp⟩ ?_
        rintro k _ σ ⟨i, b, hi, rfl, hbi, s0, sg⟩
        have l0 := AH.get_lt sg
        cases b with
        | false =>
          have hno : ¬ okStp s := fun h => by
            obtain ⟨h1, h2⟩ := hok3.1 h
            have := hbi.2 ⟨h1, fun j hj => h2 j (by omega)⟩
            cases this
          simp (disch := omega) [Und, s0, hno, -Spanned_ok, -Bool.exists_bool]
        | true =>
          obtain ⟨h1, h2⟩ := hbi.1 rfl
          have hcl := (hC.1 h1).2.2.2
          by_cases hi3 : i < 3
          · have hi3' : (i : Int) < 3 := by omega
            have hil : i < s.cl.length := by omega
            have hil' : (i : Int) < s.cl.length := by omega
            have hsp := rspan_ok (nth s.cl i).lo (nth s.cl i).hi (-10000) 10000
            simp (disch := omega) [Und, s0, sg, l0, hi3', hil, hil', hsp, -Spanned_ok, -Bool.exists_bool]
            refine ⟨k - 1, by omega, i + 1, by omega, _, ⟨rfl, by omega⟩, ?_⟩
            rw [decide_eq_true_eq]
            constructor
            · intro h3
              refine ⟨h1, fun j hj => ?_⟩
              by_cases e : j = i
              · rw [e]; exact h3
              · exact h2 j (by omega)
            · intro h3
              exact h3.2 i (by omega)
          · obtain rfl : i = 3 := by omega
            have hyes : okStp s := hok3.2 ⟨h1, h2⟩
            simp (disch := omega) [Und, s0, hyes, -Spanned_ok, -Bool.exists_bool]
      · have : ¬ okStp s := by rintro (h | h | h) <;> omega
        simp (disch := omega) [eStp, k1, k2, k3, this, Und, -Bool.exists_bool]
theorem rCheck_ok (E N : Span) (nS : Bool) (S : List Stp) (hz : szLog S) : ans prog O 20 [eLog E N nS S] = some (.int .i64 (if okLog E N S then 0 else 80)) := by
  have h1 := rspan_ok E.lo E.hi 0 59
  have h2 := rspan_ok N.lo N.hi 0 59
  have hzl := hz.1
  refine fn_of' pl get20 (oo (by decide)) rfl rfl ?_
  simp (disch := omega) [eLog, h1, h2, Und, -Spanned_ok, -Bool.exists_bool]
  generalize hb : ((_ && _ : Bool)) = b1
  have hC : b1 = true ↔ isSp E 0 59 ∧ isSp N 0 59 ∧ S.length ≤ 12 := by
    rw [← hb]
    simp only [Bool.and_eq_true, decide_eq_true_eq]
    constructor
    · rintro ⟨⟨h1, h2⟩, h3⟩
      exact ⟨h1, h2, by omega⟩
    · rintro ⟨h1, h2, h3⟩
      exact ⟨⟨h1, h2⟩, by omega⟩
  clear hb
  have hokL : okLog E N S ↔ b1 = true ∧ ∀ j, j < S.length → okStp (nth S j) := by
    rw [hC]
    unfold okLog
    constructor
    · rintro ⟨h1, h2, h3, h4⟩; exact ⟨⟨h1, h2, h3⟩, h4⟩
    · rintro ⟨⟨h1, h2, h3⟩, h4⟩; exact ⟨h1, h2, h3, h4⟩
  refine lp_loop pl (fun k fr σ => ∃ (i : Nat) (b : Bool), i + k = S.length ∧ fr = ⟨[(1, .ptr (some (0, 0))), (3, .bool b), (4, .int .i64 i)], []⟩ ∧ (b = true ↔ b1 = true ∧ ∀ j, j < i → okStp (nth S j)) ∧ σ.lim = 0 ∧ σ.get 0 = some (.cells [.int .i64 E.lo, .int .i64 E.hi, .int .i64 N.lo, .int .i64 N.hi, vl eStp nS S]))
    ⟨S.length, 0, b1, by omega, rfl, ⟨fun h => ⟨h, fun j hj => by omega⟩, fun h => h.1⟩, by simp, by simp⟩ ?_
  rintro k _ σ ⟨i, b, hi, rfl, hbi, s0, sg⟩
  have l0 := AH.get_lt sg
  cases b with
  | false =>
    have hno : ¬ okLog E N S := fun h => by
      obtain ⟨h1, h2⟩ := hokL.1 h
      have := hbi.2 ⟨h1, fun j hj => h2 j (by omega)⟩
      cases this
    rw [if_neg hno]
    simp (disch := omega) [Und, s0, -Spanned_ok, -Bool.exists_bool]
  | true =>
    obtain ⟨h1, h2⟩ := hbi.1 rfl
    by_cases hi3 : i < S.length
    · have hi3' : (i : Int) < S.length := by omega
      have hsp := rstep_ok (nth S i) (hz.2 i hi3)
      unfold eStp at hsp
      simp (disch := omega) [Und, s0, sg, l0, hi3', hsp, -Spanned_ok, -Bool.exists_bool]
      refine ⟨k - 1, by omega, i + 1, by omega, _, ⟨rfl, by omega⟩, ?_⟩
      rw [decide_eq_true_eq]
      constructor
      · intro h3
        refine ⟨h1, fun j hj => ?_⟩
        by_cases e : j = i
        · rw [e]; exact h3
        · exact h2 j (by omega)
      · intro h3
        exact h3.2 i (by omega)
    · obtain rfl : i = S.length := by omega
      have hyes : okLog E N S := hokL.2 ⟨h1, h2⟩
      rw [if_pos hyes]
      simp (disch := omega) [Und, s0, sg, l0, -Spanned_ok, -Bool.exists_bool]
end Go.Oct.Fix
