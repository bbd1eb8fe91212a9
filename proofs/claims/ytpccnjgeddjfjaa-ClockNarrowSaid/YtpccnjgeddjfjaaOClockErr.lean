/- Errors: what it answers, and the specification's. -/
import Derived.Test.YtpccnjgeddjfjaaOClockDays
set_option maxRecDepth 100000
set_option maxHeartbeats 2000000
set_option linter.unusedVariables false
set_option linter.unusedSimpArgs false
namespace Go.Oct.Clock
open Go.Oct
/-- A truth. -/
abbrev eTru (nA nB : Bool) (A : List Int) (g f : Int) (B : List Int) : AV := .agg [vs nA A, .int .i64 g, .int .i64 f, vs nB B]
def inS (s : Span) (n : Int) : Prop := s.lo ≤ n ∧ n ≤ s.hi
instance (s : Span) (n : Int) : Decidable (inS s n) := by unfold inS; infer_instance
def tr0 (R : List Span) (a e : Span) (D : List Span) (A : List Int) (g f : Int) (B : List Int) : Prop := (A.length : Int) = R.length ∧ (B.length : Int) = D.length ∧ inS a g ∧ inS e f
instance (R : List Span) (a e : Span) (D : List Span) (A : List Int) (g f : Int) (B : List Int) : Decidable (tr0 R a e D A g f B) := by unfold tr0; infer_instance
def tr1 (R : List Span) (a e : Span) (D : List Span) (A : List Int) (g f : Int) (B : List Int) (n : Nat) : Prop := tr0 R a e D A g f B ∧ ∀ i, i < n → inS (nth R i) (nth A i)
instance (R : List Span) (a e : Span) (D : List Span) (A : List Int) (g f : Int) (B : List Int) (n : Nat) : Decidable (tr1 R a e D A g f B n) := by unfold tr1; infer_instance
def tr2 (R : List Span) (a e : Span) (D : List Span) (A : List Int) (g f : Int) (B : List Int) (n : Nat) : Prop := tr1 R a e D A g f B R.length ∧ ∀ i, i < n → inS (nth D i) (nth B i)
instance (R : List Span) (a e : Span) (D : List Span) (A : List Int) (g f : Int) (B : List Int) (n : Nat) : Decidable (tr2 R a e D A g f B n) := by unfold tr2; infer_instance
abbrev okTru (R : List Span) (a e : Span) (D : List Span) (A : List Int) (g f : Int) (B : List Int) : Prop := tr2 R a e D A g f B D.length
section
variable {R : List Span} {a e : Span} {D : List Span} {A : List Int} {g f : Int} {B : List Int}
theorem tr1_succ {n : Nat} : tr1 R a e D A g f B (n + 1) ↔ tr1 R a e D A g f B n ∧ inS (nth R n) (nth A n) := by
  unfold tr1
  constructor
  · rintro ⟨h1, h2⟩; exact ⟨⟨h1, fun i hi => h2 i (by omega)⟩, h2 n (by omega)⟩
  · rintro ⟨⟨h1, h2⟩, h3⟩
    refine ⟨h1, fun i hi => ?_⟩
    by_cases e : i = n
    · rw [e]; exact h3
    · exact h2 i (by omega)
theorem tr2_succ {n : Nat} : tr2 R a e D A g f B (n + 1) ↔ tr2 R a e D A g f B n ∧ inS (nth D n) (nth B n) := by
  unfold tr2
  constructor
  · rintro ⟨h1, h2⟩; exact ⟨⟨h1, fun i hi => h2 i (by omega)⟩, h2 n (by omega)⟩
  · rintro ⟨⟨h1, h2⟩, h3⟩
    refine ⟨h1, fun i hi => ?_⟩
    by_cases e : i = n
    · rw [e]; exact h3
    · exact h2 i (by omega)
end
theorem isTruth_ok (nT nR nD nA nB : Bool) (T : List Int) (R : List Span) (a e : Span) (D : List Span) (A : List Int) (g f : Int) (B : List Int) (hT : T.length < 2 ^ 62) (hR : R.length < 2 ^ 62) (hD : D.length < 2 ^ 62) (hA : A.length < 2 ^ 62) (hB : B.length < 2 ^ 62) :
    ans prog O 64 [eClk nT nR T R a e, vl eSpan nD D, eTru nA nB A g f B] = some (.bool (decide (okTru R a e D A g f B))) := by
  refine fn_of' pl get64 (oo (by decide)) rfl rfl ?_
  simp +contextual (disch := omega) []
  refine lp_count pl R.length (fun j => [(1, vl eSpan nD D), (3, .ptr (some (0, 0))), (5, .ptr (some (1, 0))), (7, .bool (decide (tr1 R a e D A g f B j))), (8, .int .i64 j)]) (fun _ => _) (fun _ => True) ⟨?_, rfl, trivial⟩ ?_
  · simp [tr1, tr0, inS, Bool.and_assoc]
  intro j hj _
  by_cases hd : tr1 R a e D A g f B j
  · simp (disch := omega) [Und, hd]
    refine ⟨fun h1 => ⟨h1, by have := hd.1.1; omega, h1, ?_⟩, fun h1 => ?_⟩
    · rw [Bool.eq_iff_iff]
      simp only [Bool.and_eq_true, decide_eq_true_eq, tr1_succ, inS]
      exact ⟨fun h3 => ⟨hd, h3⟩, fun h3 => h3.2⟩
    obtain rfl : j = R.length := by omega
    refine lp_count pl D.length (fun j => [(1, vl eSpan nD D), (5, .ptr (some (1, 0))), (7, .bool (decide (tr2 R a e D A g f B j))), (9, .int .i64 j)]) (fun _ => _) (fun _ => True) ⟨?_, rfl, trivial⟩ ?_
    · simp [tr2, hd]
    intro j hj _
    by_cases hd2 : tr2 R a e D A g f B j
    · simp (disch := omega) [Und, hd2]
      refine ⟨fun h1 => ⟨h1, by have := hd.1.2.1; omega, h1, ?_⟩, fun h1 => ?_⟩
      · rw [Bool.eq_iff_iff]
        simp only [Bool.and_eq_true, decide_eq_true_eq, tr2_succ, inS]
        exact ⟨fun h3 => ⟨hd2, h3⟩, fun h3 => h3.2⟩
      · obtain rfl : j = D.length := by omega
        exact hd2
    · simp (disch := omega) [Und, hd2]
      exact fun h => hd2 ⟨h.1, fun i hi => h.2 i (by omega)⟩
  · simp (disch := omega) [Und, hd]
    have hn : ∀ j, ¬ tr2 R a e D A g f B j := fun j' h => hd ⟨h.1.1, fun i hi => h.1.2 i (by omega)⟩
    refine lp_count pl D.length (fun j => [(1, vl eSpan nD D), (5, .ptr (some (1, 0))), (7, .bool false), (9, .int .i64 j)]) (fun _ => _) (fun _ => True) ⟨rfl, rfl, trivial⟩ ?_
    intro j hj _
    simp (disch := omega) [Und, hn]
/-- The errors behind the days. -/
noncomputable def accE (T A : List Int) (g f : Int) (B : List Int) : Nat → Int
  | 0 => f
  | i + 1 => accE T A g f B i + (rt T (nth A) (nth B i) + g * i)
noncomputable def errs (T A : List Int) (g f : Int) (B : List Int) (n : Nat) : List Int := (List.range n).map fun i => accE T A g f B (i + 1)
theorem errs_succ (T A : List Int) (g f : Int) (B : List Int) (n : Nat) : errs T A g f B (n + 1) = errs T A g f B n ++ [accE T A g f B (n + 1)] := by unfold errs; rw [List.range_succ, List.map_append]; rfl
theorem errs_len (T A : List Int) (g f : Int) (B : List Int) (n : Nat) : (errs T A g f B n).length = n := by unfold errs; simp
section
variable {T : List Int} {R : List Span} {a e : Span} {D : List Span} {A : List Int} {g f : Int} {B : List Int}
theorem tru_in (hd : okDays T D) (ht : okTru R a e D A g f B) {i : Nat} (hi : i < D.length) : nth T 0 ≤ nth B i ∧ nth B i ≤ nth T (T.length - 1) := by
  have h1 := hd.2 i hi
  have h2 := ht.2 i hi
  unfold isIn at h1
  unfold inS at h2
  omega
theorem tru_rate (h : okClk T R a e) (ht : okTru R a e D A g f B) {i : Nat} (hi : i < T.length) : -100000 ≤ nth A i ∧ nth A i ≤ 100000 := by
  have h1 := rows_bd h i hi
  have hl : R.length = T.length := by have := h.1.2.1; omega
  have h2 := ht.1.2 i (by omega)
  unfold inS at h2
  omega
theorem tru_rt (h : okClk T R a e) (hd : okDays T D) (ht : okTru R a e D A g f B) {i : Nat} (hi : i < D.length) : -100000 ≤ rt T (nth A) (nth B i) ∧ rt T (nth A) (nth B i) ≤ 100000 :=
  rt_bd (okT_of h) (tru_in hd ht hi).1 (tru_in hd ht hi).2 (fun i hi => tru_rate h ht hi)
theorem tru_age (h : okClk T R a e) (hd : okDays T D) (ht : okTru R a e D A g f B) {i : Nat} (hi : i < D.length) : -60000 ≤ g * i ∧ g * i ≤ 60000 := by
  have h1 := h.1.2.2.1
  have h2 := ht.1.1.2.2.1
  have h3 := hd.1
  unfold isIn at h1
  unfold inS at h2
  have := mul_bd (a := g) (b := (i : Int)) (A := 1000) (B := 60) (by omega) (by omega) (by omega) (by omega) (by omega)
  omega
theorem acc_bd (h : okClk T R a e) (hd : okDays T D) (ht : okTru R a e D A g f B) : ∀ i, i ≤ D.length → -10000000 - 160000 * (i : Int) ≤ accE T A g f B i ∧ accE T A g f B i ≤ 10000000 + 160000 * (i : Int)
  | 0, _ => by
    have h1 := h.1.2.2.2
    have h2 := ht.1.1.2.2.2
    unfold isIn at h1
    unfold inS at h2
    simp only [accE]
    omega
  | i + 1, hi => by
    have h1 := acc_bd h hd ht i (by omega)
    have h2 := tru_rt h hd ht (show i < D.length by omega)
    have h3 := tru_age h hd ht (show i < D.length by omega)
    simp only [accE]
    omega
end
theorem under_self {σ : AH} (h : σ.lim = 0) : σ.under 0 = σ := by
  cases σ
  simp only at h
  subst h
  rfl
theorem acc_step {T : List Int} {R : List Span} {a e : Span} {D : List Span} {A : List Int} {g f : Int} {B : List Int} (h : okClk T R a e) (hd : okDays T D) (ht : okTru R a e D A g f B) {j : Nat} (hj : j < D.length) :
    w64 (accE T A g f B j + w64 (rt T (nth A) (nth B j) + g * j)) = accE T A g f B (j + 1) := by
  have q1 := tru_rt h hd ht hj
  have q2 := tru_age h hd ht hj
  have q3 := acc_bd h hd ht j (by omega)
  have := hd.1
  simp only [accE]
  rw [w64_id (rt T (nth A) (nth B j) + g * j) (by omega) (by omega), w64_id _ (by omega) (by omega)]
noncomputable def errV (T : List Int) (R : List Span) (a e : Span) (D : List Span) (A : List Int) (g f : Int) (B : List Int) : List Int × Int :=
  if askE T R a e D = 0 then (if okTru R a e D A g f B then (errs T A g f B D.length, 0) else ([], 74)) else ([], askE T R a e D)
theorem ErrorsR_ok (nT nR nD nA nB : Bool) (T : List Int) (R : List Span) (a e : Span) (D : List Span) (A : List Int) (g f : Int) (B : List Int) (hT : T.length < 2 ^ 62) (hR : R.length < 2 ^ 62) (hD : D.length < 2 ^ 62) (hA : A.length < 2 ^ 62) (hB : B.length < 2 ^ 62) :
    ans prog O 24 [eClk nT nR T R a e, vl eSpan nD D, eTru nA nB A g f B] = some (.tuple [vs (errV T R a e D A g f B).1.isEmpty (errV T R a e D A g f B).1, .int .i64 (errV T R a e D A g f B).2]) := by
  refine fn_of' pl get24 (oo (by decide)) rfl rfl ?_
  by_cases h0 : askE T R a e D = 0
  · have hc : okClk T R a e := by
      unfold askE at h0
      split at h0
      · assumption
      · cases h0
    have hdy : okDays T D := by
      unfold askE at h0
      rw [if_pos hc] at h0
      split at h0
      · assumption
      · cases h0
    by_cases ht : okTru R a e D A g f B
    · have hv : errV T R a e D A g f B = (errs T A g f B D.length, 0) := by unfold errV; rw [if_pos h0, if_pos ht]
      have hdl := hdy.1
      have hTl := (okT_of hc).1
      have hRl : R.length = T.length := by have := hc.1.2.1; omega
      have hAl : A.length = T.length := by have := ht.1.1.1; omega
      have hBl : B.length = D.length := by have := ht.1.1.2.1; omega
      rw [hv]
      simp (disch := omega) [isTruth_ok, h0, ht, -Bool.exists_bool]
      refine lp_loop pl (fun k fr σ => ∃ (j : Nat) (v : AV), j + k = D.length ∧ fr = ⟨[(1, vl eSpan nD D), (3, .ptr (some (0, 0))), (5, .ptr (some (1, 0))), (9, .int .i64 (accE T A g f B j)), (10, v), (11, .int .i64 j)], []⟩ ∧ σ.lim = 0 ∧ 2 ≤ σ.next ∧
        σ.get 0 = some (.cells [vs nT T, vl eSpan nR R, .int .i64 a.lo, .int .i64 a.hi, .int .i64 e.lo, .int .i64 e.hi]) ∧ σ.get 1 = some (.cells [vs nA A, .int .i64 g, .int .i64 f, vs nB B]) ∧ Buf 2 1 (AV.int .i64) σ v (errs T A g f B j))
        ⟨D.length, 0, .vsl true [], by omega, rfl, by simp, by simp, by simp, by simp, Buf.nil⟩ ?_
      rintro k _ σ ⟨j, v, hj, rfl, hl0, hn, hg0, hg1, hbuf⟩
      by_cases hjl : j < D.length
      · obtain ⟨i1, i2⟩ := tru_in hdy ht hjl
        have hrr : ans prog O 55 [vs nT T, vs nA A, .int .i64 (nth B j)] = some (.int .i64 (rt T (nth A) (nth B j))) := rrate_ok nT nA T A (nth B j) _ (okT_of hc) (kOf_at (okT_of hc) i1 i2) hAl (fun i hi => tru_rate hc ht hi)
        have hu := under_self hl0
        have q1 := tru_rt hc hdy ht hjl
        have q2 := tru_age hc hdy ht hjl
        have q3 := acc_bd hc hdy ht j (by omega)
        simp (disch := omega) [Und, hl0, hn, hg0, hg1, hrr, hjl, hu, -Bool.exists_bool]
        refine ⟨by omega, by omega, ?_⟩
        refine hbuf.push encI (by omega) (by omega) (accE T A g f B (j + 1)) (by rw [errs_len]; simp only [topBytes]; omega) rfl fun v' σ' h1 h2 => ?_
        have hlim := h2.lim
        have hnext := h2.next
        simp (disch := omega) [-Bool.exists_bool]
        exact ⟨k - 1, by omega, j + 1, by omega, v', ⟨rfl, rfl, by omega⟩, by omega, by omega, by rw [h2.get 0 (by omega)]; exact hg0, by rw [h2.get 1 (by omega)]; exact hg1, by rw [errs_succ]; exact h1⟩
      · obtain rfl : j = D.length := by omega
        simp (disch := omega) [Und, hl0, hn, hg0, hg1, -Bool.exists_bool]
        exact hbuf.fzI _
    · have hv : errV T R a e D A g f B = ([], 74) := by unfold errV; rw [if_pos h0, if_neg ht]
      rw [hv]
      simp (disch := omega) [isTruth_ok, h0, ht]
      rfl
  · have hv : errV T R a e D A g f B = ([], askE T R a e D) := by unfold errV; rw [if_neg h0]
    rw [hv]
    simp (disch := omega) [h0]
    rfl
end Go.Oct.Clock
