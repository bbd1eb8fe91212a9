/- ClockHolds. -/
import Derived.Test.YtpccnjgeddjfjaaOClockHol
import Derived.Test.YtpccnjgeddjfjaaOT3
set_option maxRecDepth 100000
set_option maxHeartbeats 2000000
set_option linter.unusedVariables false
set_option linter.unusedSimpArgs false
namespace Go.Oct.Clock
open Go.Oct
theorem nth_errs {T A : List Int} {g f : Int} {B : List Int} {n i : Nat} (h : i < n) : nth (errs T A g f B n) i = accE T A g f B (i + 1) := by
  have h2 := nth_get? (xs := errs T A g f B n) (i := i) (by rw [errs_len]; exact h)
  unfold errs at h2 ⊢
  rw [List.getElem?_map, List.getElem?_range h] at h2
  simpa using h2.symm
theorem nth_cones {T : List Int} {R : List Span} {a e : Span} {D : List Span} {n i : Nat} (h : i < n) : nth (cones T R a e D n) i = coneAt T R a e D (i + 1) := by
  have h2 := nth_get? (xs := cones T R a e D n) (i := i) (by rw [cones_len]; exact h)
  unfold cones at h2 ⊢
  rw [List.getElem?_map, List.getElem?_range h] at h2
  simpa using h2.symm
theorem ClockHolds_main (nT nR nD nb : Bool) (T : List Int) (R : List Span) (a e : Span) (D : List Span) (b : List Int) (hT : T.length < 2 ^ 62) (hR : R.length < 2 ^ 62) (hD : D.length < 2 ^ 62) (hb : b.length < 2 ^ 62) :
    ans prog O 7 [eClk nT nR T R a e, vl eSpan nD D, vs nb b] = some (.bool true) := by
  have hco := Cone_ok nT nR nD T R a e D hT hR hD
  refine fn_of' pl get7 (oo (by decide)) rfl rfl ?_
  by_cases h0 : askE T R a e D = 0
  · obtain ⟨hc, hdy⟩ := ask0 h0
    have hdl := hdy.1
    have hTl := (okT_of hc).1
    have hRl : R.length = T.length := by have := hc.1.2.1; omega
    have hcv : coneV T R a e D = (cones T R a e D D.length, 0) := by unfold coneV; rw [if_pos h0]
    rw [hcv] at hco
    have hch := chosen_ok nT nR nD nb T R a e D b hb hc hdy
    have htr := chosen_tru hc hdy b
    have her := Errors_ok nT nR nD (chR b R 2 R.length).isEmpty (chR b D 3 D.length).isEmpty T R a e D (chR b R 2 R.length) (chz a.lo a.hi (pick b 0)) (chz e.lo e.hi (pick b 1)) (chR b D 3 D.length) hT hR hD (by rw [chR_len]; omega) (by rw [chR_len]; omega)
    have hBl : (chR b D 3 D.length).length = D.length := chR_len ..
    generalize hA : chR b R 2 R.length = A at hch htr her
    generalize hB : chR b D 3 D.length = B at hch htr her hBl
    generalize hg : chz a.lo a.hi (pick b 0) = g at hch htr her
    generalize hf : chz e.lo e.hi (pick b 1) = f at hch htr her
    have hev : errV T R a e D A g f B = (errs T A g f B D.length, 0) := by unfold errV; rw [if_pos h0, if_pos htr]
    rw [hev] at her
    have hel : (errs T A g f B D.length).length = D.length := errs_len ..
    have hcl : (cones T R a e D D.length).length = D.length := cones_len ..
    have q1 : ¬ (60 : Int) < D.length := by omega
    simp (disch := omega) [hco, hc, hch, her, hel, hcl, q1]
    refine lp_loop pl (fun k fr σ => ∃ j : Nat, j + k = D.length ∧ fr = ⟨[(3, .ptr (some (0, 0))), (7, vl eSpan (cones T R a e D D.length).isEmpty (cones T R a e D D.length)), (9, .ptr (some (1, 0))), (10, vs (errs T A g f B D.length).isEmpty (errs T A g f B D.length)), (11, .int .i64 (accE T A g f B j)), (12, .int .i64 j)], []⟩ ∧ σ.lim = 0 ∧ 2 ≤ σ.next ∧
      σ.get 0 = some (.cells [vs nT T, vl eSpan nR R, .int .i64 a.lo, .int .i64 a.hi, .int .i64 e.lo, .int .i64 e.hi]) ∧ σ.get 1 = some (.cells [vs A.isEmpty A, .int .i64 g, .int .i64 f, vs B.isEmpty B]))
      ⟨D.length, 0, by omega, rfl, by simp, by simp, by simp, by simp⟩ ?_
    rintro k _ σ ⟨j, hj, rfl, hl0, hn, hg0, hg1⟩
    by_cases hjl : j < D.length
    · have hin := tru_in hdy htr hjl
      have hiR : inR T (nth B j) j := ⟨hin, by omega, by omega⟩
      have hrv : rateV T R a e (nth B j) j = (rateS T R a (nth B j) j, 0) := by unfold rateV; rw [if_pos hc, if_pos hiR]
      have hr := Rate_ok nT nR T R a e (nth B j) j hT hR
      rw [hrv] at hr
      have n1 := nth_errs (T := T) (A := A) (g := g) (f := f) (B := B) hjl
      have n2 := nth_cones (T := T) (R := R) (a := a) (e := e) (D := D) hjl
      have c1 := acc_in hc hdy htr (j + 1) (by omega)
      have c2 := inc_in hc hdy htr hjl
      have c3 := acc_bd hc hdy htr j (by omega)
      have c4 := acc_bd hc hdy htr (j + 1) (by omega)
      have c5 : accE T A g f B (j + 1) - accE T A g f B j = rt T (nth A) (nth B j) + g * j := by simp only [accE]; omega
      have m0 : 0 < σ.next := by omega
      have m1 : 1 < σ.next := by omega
      have m2 : ¬ 0 = σ.next := by omega
      have m3 : ¬ 1 = σ.next := by omega
      simp (disch := omega) [Und, hl0, hn, hg0, hg1, hjl, hr, hel, hcl, n1, n2, m0, m1, m2, m3, -Bool.exists_bool]
      exact ⟨by omega, rfl, ⟨c1, by rw [c5]; exact c2.1, by rw [c5]; exact c2.2⟩, fun _ _ _ _ => ⟨k - 1, by omega, j + 1, by omega, ⟨rfl, by omega⟩, by omega⟩⟩
    · obtain rfl : j = D.length := by omega
      simp (disch := omega) [Und, hl0, hn, hg0, hg1, hel, hcl, -Bool.exists_bool]
  · have hcv : coneV T R a e D = ([], askE T R a e D) := by unfold coneV; rw [if_neg h0]
    rw [hcv] at hco
    have hd2 : ¬ askE T R a e D = 0 := h0
    simp (disch := omega) [hco, h0]
theorem ClockHolds_ok (nT nR : Bool) (T : List Int) (R : List Span) (a e : Span) (nD : Bool) (D : List Span) (nb : Bool) (b : List Int) {x0 x1 x2 x3 : AV}
    (h0 : Slice (AV.int .i64) i64 x0 nT T) (h1 : Slice eSpan (fun s => i64 s.lo ∧ i64 s.hi) x1 nR R) (h2 : Slice eSpan (fun s => i64 s.lo ∧ i64 s.hi) x2 nD D) (h3 : Slice (AV.int .i64) i64 x3 nb b) :
    ans prog O 7 [eClk nT nR T R a e, vl eSpan nD D, vs nb b] = some (.bool true) := by
  have := h0.len; have := h1.len; have := h2.len; have := h3.len
  exact ClockHolds_main nT nR nD nb T R a e D b (by omega) (by omega) (by omega) (by omega)
end Go.Oct.Clock
