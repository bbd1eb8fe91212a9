/- Errors: the program's. -/
import Derived.Test.YtddkghgfbhhcdaaOCryErr
set_option maxRecDepth 100000
set_option maxHeartbeats 2000000
set_option linter.unusedVariables false
set_option linter.unusedSimpArgs false
namespace Go.Oct.Cry
open Go.Oct
theorem errors1_ok (nA nB : Bool) (A : List Int) (g f : Int) (B : List Int) (i : Nat) (h : i < A.length) :
    ans prog O 62 [.int .i64 i, .vptr [vs nA A, .int .i64 g, .int .i64 f, vs nB B] 0] = some (.int .i64 (nth A i)) := by
  refine fn_of' pl get62 (oo (by decide)) rfl rfl ?_
  simp +contextual (disch := omega) [h]
theorem SnapK.agg {k : Nat} {σ : AH} {xs xs' : List AV} {S : List Nat} (h : SnapsK k σ xs S xs') : SnapK (k + 1) σ (.agg xs) S (.agg xs') :=
  ⟨h.ids, fun T hT => by simp only [fzV, h.fz T hT]⟩
theorem snapTru {σ : AH} {nT nA nB : Bool} {T A B : List Int} {g f : Int} (hg : σ.get 1 = some (.cells [vs nA A, .int .i64 g, .int .i64 f, vs nB B])) :
    Snap σ (.agg [vs nT T, .func (.func 62) [] [.ptr (some (1, 0))]]) [1] (.agg [vs nT T, .func (.func 62) [] [.vptr [vs nA A, .int .i64 g, .int .i64 f, vs nB B] 0]]) :=
  SnapK.snap (SnapK.agg (.cons (SnapK.vl _ _ _ _ _) (.cons (SnapK.func .nil (.cons (SnapK.ptr hg (.cons (SnapK.vl _ _ _ _ _) (.cons (SnapK.int _ _ _ _) (.cons (SnapK.int _ _ _ _) (.cons (SnapK.vl _ _ _ _ _) .nil))))) .nil)) .nil)))
theorem trim_op {z o n : Nat} (hn : n < 2 ^ 62) : aslS z (.slice (some (o, 0)) n (.op z)) none (some (.int .i64 n)) (some (.int .i64 n)) = some (.slice (some (o, 0)) n (.ex n)) := by
  have hs : ∀ c : Nat, (ACap.op c).sure n = n := fun c => rfl
  have hle : ACap.less z 0 (some n) (.op z) = some (.ex n) := by simp [ACap.less]
  simp only [aslS, hs, abounds_hm]
  rw [if_pos (by omega), if_pos (by omega)]
  simp only [Int.toNat_natCast, hle, Option.map_some, Nat.zero_mul, Nat.add_zero, Nat.sub_zero]
theorem Errors_ok (nT nR nD nA nB : Bool) (T : List Int) (R : List Span) (a e : Span) (D : List Span) (A : List Int) (g f : Int) (B : List Int) (hT : T.length < 2 ^ 62) (hR : R.length < 2 ^ 62) (hD : D.length < 2 ^ 62) (hA : A.length < 2 ^ 62) (hB : B.length < 2 ^ 62) :
    ans prog O 26 [eClk nT nR T R a e, vl eSpan nD D, eTru nA nB A g f B] = some (.tuple [vs (errV T R a e D A g f B).1.isEmpty (errV T R a e D A g f B).1, .int .i64 (errV T R a e D A g f B).2]) := by
  refine fn_of' pl get26 (oo (by decide)) rfl rfl ?_
  by_cases hc : okClk T R a e
  · have hTl := (okT_of hc).1
    have hRl : R.length = T.length := by have := hc.1.2.1; omega
    have hop := opened_ok nT nR nD T R a e D hT hR hD hc
    by_cases hdy : okDays T D
    · have hdl := hdy.1
      rw [if_pos hdy] at hop
      have h0 : askE T R a e D = 0 := by unfold askE; rw [if_pos hc, if_pos hdy]
      simp (disch := omega) [hop]
      refine lp_count pl (min A.length R.length) (fun j => [(1, vl eSpan nD D), (5, .ptr (some (1, 0))), (8, .ptr (some (2, 0))), (10, .bool (decide (tr1 R a e D A g f B j))), (75, .int .i64 (min (A.length : Int) R.length)), (76, .int .i64 j)]) (fun _ => _) (fun _ => True) ⟨?_, rfl, trivial⟩ ?_
      · simp [tr1, tr0, inS, Bool.and_assoc]
      intro j hj _
      by_cases hd : tr1 R a e D A g f B j
      · simp (disch := omega) [Und, hd]
        refine ⟨fun h1 => ⟨by omega, by omega, by omega, ?_⟩, fun h1 => ?_⟩
        · rw [Bool.eq_iff_iff]
          simp only [Bool.and_eq_true, decide_eq_true_eq, tr1_succ, inS]
          exact ⟨fun h3 => ⟨hd, h3⟩, fun h3 => h3.2⟩
        have hAR := hd.1.1
        have hBD := hd.1.2.1
        obtain rfl : j = R.length := by omega
        clear hj h1
        refine lp_count pl D.length (fun j => [(1, vl eSpan nD D), (5, .ptr (some (1, 0))), (8, .ptr (some (2, 0))), (10, .bool (decide (tr2 R a e D A g f B j))), (108, .int .i64 (min (B.length : Int) D.length)), (109, .int .i64 j)]) (fun _ => _) (fun _ => True) ⟨?_, rfl, trivial⟩ ?_
        · simp [tr2, hd]
        intro j hj _
        by_cases hd2 : tr2 R a e D A g f B j
        · simp (disch := omega) [Und, hd2]
          refine ⟨fun h1 => ⟨by omega, by omega, ?_⟩, fun h1 => ?_⟩
          · rw [Bool.eq_iff_iff]
            simp only [Bool.and_eq_true, decide_eq_true_eq, tr2_succ, inS]
            exact ⟨fun h3 => ⟨hd2, h3⟩, fun h3 => h3.2⟩
          obtain rfl : j = D.length := by omega
          clear hj h1
          have hv : errV T R a e D A g f B = (errs T A g f B D.length, 0) := by unfold errV; rw [if_pos h0, if_pos hd2]
          rw [hv]
          refine lp_loop pl (fun k fr σ => ∃ (j : Nat) (v : AV), j + k = D.length ∧ fr = ⟨[(5, .ptr (some (1, 0))), (13, .iface 145 (.agg [vs nT T, .func (.func 62) [] [.ptr (some (1, 0))]])), (14, v), (15, .int .i64 (accE T A g f B j)), (143, .int .i64 D.length), (144, .int .i64 j)], []⟩ ∧ σ.lim = 0 ∧ 3 ≤ σ.next ∧
            σ.get 1 = some (.cells [vs nA A, .int .i64 g, .int .i64 f, vs nB B]) ∧ Buf 3 1 (AV.int .i64) σ v (errs T A g f B j))
            ⟨D.length, 0, .vsl true [], by omega, rfl, by simp, by simp, by simp, Buf.nil⟩ ?_
          rintro k _ σ ⟨j, v, hj, rfl, hl0, hn, hg1, hbuf⟩
          by_cases hjl : j < D.length
          · obtain ⟨i1, i2⟩ := tru_in hdy hd2 hjl
            have hrr : ans prog O 172 [.agg [vs nT T, .func (.func 62) [] [.vptr [vs nA A, .int .i64 g, .int .i64 f, vs nB B] 0]], .int .i64 (nth B j)] = some (.int .i64 (rt T (nth A) (nth B j))) :=
              rate_ok nT T _ _ _ (nth B j) _ (okT_of hc) (kOf_at (okT_of hc) i1 i2) (by decide) (by simp) (by simp) (fun i hi => tru_rate hc hd2 hi) (fun i hi => errors1_ok nA nB A g f B i (by omega))
            have q1 := tru_rt hc hdy hd2 hjl
            have q2 := tru_age hc hdy hd2 hjl
            have q3 := acc_bd hc hdy hd2 j (by omega)
            have hu := under_self hl0
            simp (disch := omega) [Und, hl0, hn, hg1, hjl, hu, -Bool.exists_bool]
            refine ⟨by omega, ?_⟩
            refine pc_scal (.cons (snapTru (σ := σ.under σ.next) hg1) (.cons (Snap.int _ _ _) .nil)) (fun h => by simp at h) (by simp) (oo (args := []) (by decide)).1 hrr rfl ?_
            simp (disch := omega) [Und, hl0, hn, hg1, hjl, hu, -Bool.exists_bool]
            refine ⟨by omega, ?_⟩
            refine hbuf.push encI (by omega) (by omega) (accE T A g f B (j + 1)) (by rw [errs_len]; simp only [topBytes]; omega) rfl fun v' σ' h1 h2 => ?_
            have hlim := h2.lim
            have hnext := h2.next
            simp (disch := omega) [-Bool.exists_bool]
            exact ⟨k - 1, by omega, j + 1, by omega, v', ⟨rfl, rfl, by omega⟩, by omega, by omega, by rw [h2.get 1 (by omega)]; exact hg1, by rw [errs_succ]; exact h1⟩
          · obtain rfl : j = D.length := by omega
            have hel : (errs T A g f B D.length).length = D.length := errs_len ..
            rcases hbuf with ⟨_, h2⟩ | ⟨i, rfl, h2, h3, h4⟩
            · rw [h2] at hel; simp at hel; omega
            have htr := trim_op (z := 1) (o := i) (n := (errs T A g f B D.length).length) (by omega)
            simp (disch := omega) [Und, hl0, hn, hg1, htr, -Bool.exists_bool]
            have he : (errs T A g f B D.length).isEmpty = false := by cases hq : errs T A g f B D.length with | nil => exact absurd hq h4 | cons _ _ => rfl
            rw [he]
            exact fz_whole encI flatI (show σ.cel i = some (rowOf (AV.int .i64) (errs T A g f B D.length)) by simp [h3]) (.inr rfl) 5
        · simp (disch := omega) [Und, hd2]
          have hv : errV T R a e D A g f B = ([], 74) := by unfold errV; rw [if_pos h0, if_neg (fun h => hd2 ⟨h.1, fun i hi => h.2 i (by omega)⟩)]
          rw [hv]
          exact ⟨fun h1 => ⟨by omega, fun h => hd2 (tr2_succ.1 h).1⟩, fun h1 => ⟨rfl, rfl⟩⟩
      · simp (disch := omega) [Und, hd]
        refine ⟨fun h1 => ⟨by omega, fun h => hd (tr1_succ.1 h).1⟩, fun h1 => ?_⟩
        have hv : errV T R a e D A g f B = ([], 74) := by unfold errV; rw [if_pos h0, if_neg (fun h => hd ⟨h.1.1, fun i hi => h.1.2 i (by omega)⟩)]
        rw [hv]
        refine lp_count pl (min B.length D.length) (fun j => [(1, vl eSpan nD D), (5, .ptr (some (1, 0))), (8, .ptr (some (2, 0))), (10, .bool false), (108, .int .i64 (min (B.length : Int) D.length)), (109, .int .i64 j)]) (fun _ => _) (fun _ => True) ⟨rfl, rfl, trivial⟩ ?_
        intro j hj _
        simp (disch := omega) [Und]
        exact ⟨fun h1 => by omega, fun h1 => rfl⟩
    · rw [if_neg hdy] at hop
      have h0 : askE T R a e D = 71 := by unfold askE; rw [if_pos hc, if_neg hdy]
      have hv : errV T R a e D A g f B = ([], 71) := by unfold errV; rw [h0]; rfl
      rw [hv]
      simp (disch := omega) [hop]
      rfl
  · have hop := opened_bad nT nR nD T R a e D hT hR hD hc
    have h0 : askE T R a e D = 70 := by unfold askE; rw [if_neg hc]
    have hv : errV T R a e D A g f B = ([], 70) := by unfold errV; rw [h0]; rfl
    rw [hv]
    simp (disch := omega) [hop]
    rfl
end Go.Oct.Cry
