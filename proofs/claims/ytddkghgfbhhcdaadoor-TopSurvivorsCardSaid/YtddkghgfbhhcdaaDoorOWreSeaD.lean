/- Logs: the program's check. -/
import Derived.Test.YtddkghgfbhhcdaaDoorOWreSeaC
set_option maxRecDepth 100000
set_option maxHeartbeats 4000000
set_option linter.unusedVariables false
set_option linter.unusedSimpArgs false
namespace Go.Oct.Wre.Fx
open Go.Oct
def still (s : Stp) : Prop := (s.elo = 0 ∧ s.ehi = 0) ∧ s.nlo = 0 ∧ s.nhi = 0
def noV (s : Stp) : Prop := s.vlo = 0 ∧ s.vhi = 0
def okStp (s : Stp) : Prop :=
  (s.k = 1 ∧ okLine s.a s.b ∧ isSp ⟨s.vlo, s.vhi⟩ (-10000) 10000 ∧ still s ∧ s.cl.length = 0) ∨
  (s.k = 2 ∧ (s.a = 0 ∧ s.b = 0) ∧ noV s ∧ isSp ⟨s.elo, s.ehi⟩ (-60) 60 ∧ isSp ⟨s.nlo, s.nhi⟩ (-60) 60 ∧ s.cl.length = 0) ∨
  (s.k = 3 ∧ (s.a = 0 ∧ s.b = 0) ∧ noV s ∧ still s ∧ s.cl.length = 3 ∧ ∀ j, j < 3 → isSp (nth s.cl j) (-10000) 10000)
open Classical in
noncomputable instance (s : Stp) : Decidable (okStp s) := Classical.propDecidable _
theorem isStep1_ok (c : Span) : ans prog O 136 [.agg [.int .i64 c.lo, .int .i64 c.hi]] = some (.bool (!decide (isSp c (-10000) 10000))) := by
  refine fn_of' pl get136 (oo (by decide)) rfl rfl ?_
  simp (disch := omega) [-Bool.exists_bool]
theorem spanned_ok' (lo hi l h : Int) : ans prog O 107 [.agg [.int .i64 lo, .int .i64 hi], .int .i64 l, .int .i64 h] = some (.bool (decide (isSp ⟨lo, hi⟩ l h))) := spanned_ok ⟨lo, hi⟩ l h
theorem isStep_ok (s : Stp) (hl : s.cl.length < 2 ^ 62) : ans prog O 110 [eStp s] = some (.bool (decide (okStp s))) := by
  have hcf := ContainsFuncS_ok s.cn s.cl hl 136 [] [] (by decide) rfl rfl rfl rfl (fun c => !decide (isSp c (-10000) 10000)) (fun j _ => isStep1_ok (nth s.cl j))
  have hln := isLine_ok s.a s.b
  have hv := spanned_ok' s.vlo s.vhi (-10000) 10000
  have he := spanned_ok' s.elo s.ehi (-60) 60
  have hn := spanned_ok' s.nlo s.nhi (-60) 60
  refine fn_of' pl get110 (oo (by decide)) rfl rfl ?_
  by_cases k1 : s.k = 1
  · simp (disch := omega) [eStp, k1, hln, hv, Und, -Bool.exists_bool]
    rw [Bool.eq_iff_iff, decide_eq_true_eq]
    simp only [Bool.and_eq_true, decide_eq_true_eq]
    constructor
    · rintro ⟨⟨⟨h1, h2⟩, ⟨h3, h4⟩, h5, h6⟩, h7⟩
      exact .inl ⟨k1, h1, h2, ⟨⟨h3, h4⟩, h5, h6⟩, by rw [h7]; rfl⟩
    · rintro (⟨_, h1, h2, ⟨⟨h3, h4⟩, h5, h6⟩, h7⟩ | h | h)
      · exact ⟨⟨⟨h1, h2⟩, ⟨h3, h4⟩, h5, h6⟩, List.length_eq_zero_iff.1 h7⟩
      · omega
      · omega
  · by_cases k2 : s.k = 2
    · simp (disch := omega) [eStp, k2, he, hn, Und, -Bool.exists_bool]
      rw [Bool.eq_iff_iff, decide_eq_true_eq]
      simp only [Bool.and_eq_true, decide_eq_true_eq]
      constructor
      · rintro ⟨⟨⟨⟨⟨h1, h2⟩, h3, h4⟩, h5⟩, h6⟩, h7⟩
        exact .inr (.inl ⟨k2, ⟨h1, h2⟩, ⟨h3, h4⟩, h5, h6, by rw [h7]; rfl⟩)
      · rintro (h | ⟨_, ⟨h1, h2⟩, ⟨h3, h4⟩, h5, h6, h7⟩ | h)
        · omega
        · exact ⟨⟨⟨⟨⟨h1, h2⟩, h3, h4⟩, h5⟩, h6⟩, List.length_eq_zero_iff.1 h7⟩
        · omega
    · by_cases k3 : s.k = 3
      · simp (disch := omega) [eStp, k3, hcf, Und, -Bool.exists_bool]
        rw [Bool.eq_iff_iff, decide_eq_true_eq]
        simp only [Bool.and_eq_true, decide_eq_true_eq, Bool.not_eq_true', decide_eq_false_iff_not]
        constructor
        · rintro ⟨⟨⟨⟨⟨h1, h2⟩, h3, h4⟩, ⟨h5, h6⟩, h7, h8⟩, h9⟩, h10⟩
          have h9' : s.cl.length = 3 := by omega
          exact .inr (.inr ⟨k3, ⟨h1, h2⟩, ⟨h3, h4⟩, ⟨⟨h5, h6⟩, h7, h8⟩, h9', fun j hj => Classical.byContradiction fun h => h10 ⟨j, by omega, h⟩⟩)
        · rintro (h | h | ⟨_, ⟨h1, h2⟩, ⟨h3, h4⟩, ⟨⟨h5, h6⟩, h7, h8⟩, h9, h10⟩)
          · omega
          · omega
          · exact ⟨⟨⟨⟨⟨h1, h2⟩, h3, h4⟩, ⟨h5, h6⟩, h7, h8⟩, by omega⟩, fun ⟨j, hj, h⟩ => h (h10 j (by omega))⟩
      · have : ¬ okStp s := by rintro (h | h | h) <;> omega
        simp (disch := omega) [eStp, k1, k2, k3, this, Und, -Bool.exists_bool]
theorem Check1_ok (s : Stp) (hl : s.cl.length < 2 ^ 62) : ans prog O 109 [eStp s] = some (.bool (!decide (okStp s))) := by
  have h := isStep_ok s hl
  refine fn_of' pl get109 (oo (by decide)) rfl rfl ?_
  unfold eStp at h ⊢
  simp (disch := omega) [h, -Bool.exists_bool]
def okLog (E N : Span) (S : List Stp) : Prop := isSp E 0 59 ∧ isSp N 0 59 ∧ S.length ≤ 12 ∧ ∀ j, j < S.length → okStp (nth S j)
open Classical in
noncomputable instance (E N : Span) (S : List Stp) : Decidable (okLog E N S) := Classical.propDecidable _
def eLog (E N : Span) (nS : Bool) (S : List Stp) : AV := .agg [.int .i64 E.lo, .int .i64 E.hi, .int .i64 N.lo, .int .i64 N.hi, vl eStp nS S]
def szLog (S : List Stp) : Prop := S.length < 2 ^ 62 ∧ ∀ j, j < S.length → (nth S j).cl.length < 2 ^ 62
theorem Check_ok (E N : Span) (nS : Bool) (S : List Stp) (hz : szLog S) : ans prog O 78 [eLog E N nS S] = some (.int .i64 (if okLog E N S then 0 else 80)) := by
  have hcf := ContainsFuncF_ok nS S hz.1 109 [] [] (by decide) rfl rfl rfl rfl (fun s => !decide (okStp s)) (fun j hj => Check1_ok (nth S j) (hz.2 j hj))
  have h1 := spanned_ok' E.lo E.hi 0 59
  have h2 := spanned_ok' N.lo N.hi 0 59
  refine fn_of' pl get78 (oo (by decide)) rfl rfl ?_
  by_cases c1 : isSp E 0 59
  · have d1 : isSp ⟨E.lo, E.hi⟩ 0 59 := c1
    by_cases c2 : isSp N 0 59
    · have d2 : isSp ⟨N.lo, N.hi⟩ 0 59 := c2
      by_cases c3 : S.length ≤ 12
      · have d3 : ¬ (12 : Int) < S.length := by omega
        by_cases c4 : ∀ j, j < S.length → okStp (nth S j)
        · have hok : okLog E N S := ⟨c1, c2, c3, c4⟩
          have d4 : ¬ ∃ j, j < S.length ∧ (!decide (okStp (nth S j))) = true := by
            rintro ⟨j, hj, h⟩
            rw [decide_eq_true (c4 j hj)] at h; cases h
          rw [decide_eq_false d4] at hcf
          simp (disch := omega) [eLog, h1, h2, hcf, d1, d2, d3, hok, Und, -Bool.exists_bool]
        · have hok : ¬ okLog E N S := fun h => c4 h.2.2.2
          have d4 : ∃ j, j < S.length ∧ (!decide (okStp (nth S j))) = true := Classical.byContradiction fun h => c4 fun j hj => Classical.byContradiction fun h2 => h ⟨j, hj, by rw [decide_eq_false h2]; rfl⟩
          rw [decide_eq_true d4] at hcf
          simp (disch := omega) [eLog, h1, h2, hcf, d1, d2, d3, hok, Und, -Bool.exists_bool]
      · have hok : ¬ okLog E N S := fun h => c3 h.2.2.1
        have d3 : (12 : Int) < S.length := by omega
        simp (disch := omega) [eLog, h1, h2, d1, d2, d3, hok, Und, -Bool.exists_bool]
    · have hok : ¬ okLog E N S := fun h => c2 h.2.1
      have d2 : ¬ isSp ⟨N.lo, N.hi⟩ 0 59 := c2
      simp (disch := omega) [eLog, h1, h2, d1, d2, hok, Und, -Bool.exists_bool]
  · have hok : ¬ okLog E N S := fun h => c1 h.1
    have d1 : ¬ isSp ⟨E.lo, E.hi⟩ 0 59 := c1
    simp (disch := omega) [eLog, h1, d1, hok, Und, -Bool.exists_bool]
theorem sight_ok (s : Stp) (e n : Int) (hk : s.k = 1) (h : okStp s) (he : 0 ≤ e ∧ e ≤ 59) (hn : 0 ≤ n ∧ n ≤ 59) : ans prog O 174 [eStp s, .agg [.int .i64 e, .int .i64 n]] = some (.bool (hld s e n)) := by
  have hi := inside_ok s.vlo s.vhi (s.a * e + s.b * n)
  have hl : okLine s.a s.b := by rcases h with h | h | h <;> first | exact h.2.1 | omega
  have m1 : -1180 ≤ s.a * e ∧ s.a * e ≤ 1180 := by
    have h1 : s.a * e ≤ 20 * e := Int.mul_le_mul_of_nonneg_right hl.1.2 he.1
    have h2 : -20 * e ≤ s.a * e := Int.mul_le_mul_of_nonneg_right hl.1.1 he.1
    omega
  have m2 : -1180 ≤ s.b * n ∧ s.b * n ≤ 1180 := by
    have h1 : s.b * n ≤ 20 * n := Int.mul_le_mul_of_nonneg_right hl.2.1.2 hn.1
    have h2 : -20 * n ≤ s.b * n := Int.mul_le_mul_of_nonneg_right hl.2.1.1 hn.1
    omega
  have e1 : hld s e n = inI s.vlo s.vhi (s.a * e + s.b * n) := by unfold hld; rw [if_pos hk]
  rw [e1]
  refine fn_of' pl get174 (oo (by decide)) rfl rfl ?_
  simp (disch := omega) [eStp, hi, Und, -Bool.exists_bool]
theorem clk_le (cl : List Span) (e : Int) : clk cl e ≤ cl.length := List.length_filter_le _ _
theorem clk_succ {cl : List Span} {e : Int} {i : Nat} (h : i < cl.length) : clk (cl.take (i + 1)) e = clk (cl.take i) e + if inI (nth cl i).lo (nth cl i).hi e = true then 1 else 0 := by
  unfold clk
  rw [take_succ_nth h, List.filter_append, List.length_append]
  congr 1
  by_cases e : inI (nth cl i).lo (nth cl i).hi e = true <;> simp [List.filter, e]
theorem long_ok (s : Stp) (e n : Int) (hk : s.k = 3) (hl : s.cl.length < 2 ^ 60) : ans prog O 172 [eStp s, .agg [.int .i64 e, .int .i64 n]] = some (.bool (hld s e n)) := by
  have e1 : hld s e n = decide (2 ≤ clk s.cl e) := by unfold hld; rw [if_neg (by omega)]
  rw [e1]
  refine fn_of' pl get172 (oo (by decide)) rfl rfl ?_
  simp (disch := omega) [eStp, Und, -Bool.exists_bool]
  refine lp_loop pl (fun q fr σ => ∃ i : Nat, i + q = s.cl.length ∧ fr = ⟨[(3, .ptr (some (1, 0))), (5, .int .i64 (clk (s.cl.take i) e)), (10, vl eSpan s.cn s.cl), (11, .int .i64 s.cl.length), (12, .int .i64 i)], []⟩ ∧ σ.lim = 0 ∧ 2 ≤ σ.next ∧ σ.get 1 = some (.cells [.int .i64 e, .int .i64 n]))
    ⟨s.cl.length, 0, by omega, rfl, rfl, by simp, by simp⟩ ?_
  rintro q _ σ ⟨i, hi, rfl, s0, sn, sg⟩
  have l1 := AH.get_lt sg
  by_cases hil : i < s.cl.length
  · have hil' : (i : Int) < s.cl.length := by omega
    have hins := inside_ok (nth s.cl i).lo (nth s.cl i).hi e
    have hs := clk_succ (cl := s.cl) (e := e) hil
    have hle := clk_le (s.cl.take i) e
    rw [List.length_take] at hle
    have q1 : ¬ 1 = σ.next := by omega
    have q2 : ¬ σ.next = 1 := by omega
    cases hb : inI (nth s.cl i).lo (nth s.cl i).hi e
    · rw [hb] at hins hs
      simp at hs
      simp (disch := omega) [Und, eqf1, eqf2, s0, sg, l1, q1, q2, hil', hins, -Bool.exists_bool]
      exact ⟨q - 1, by omega, i + 1, by omega, by omega, by omega⟩
    · rw [hb] at hins hs
      simp at hs
      simp (disch := omega) [Und, eqf1, eqf2, s0, sg, l1, q1, q2, hil', hins, -Bool.exists_bool]
      exact ⟨q - 1, by omega, i + 1, by omega, by omega, by omega⟩
  · obtain rfl : i = s.cl.length := by omega
    rw [List.take_length]
    simp (disch := omega) [Und, s0, -Bool.exists_bool]
    omega
end Go.Oct.Wre.Fx
