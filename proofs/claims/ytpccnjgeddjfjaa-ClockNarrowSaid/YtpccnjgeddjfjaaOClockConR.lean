/- Cones: the specification's. -/
import Derived.Test.YtpccnjgeddjfjaaOClockCon
set_option maxRecDepth 100000
set_option maxHeartbeats 2000000
set_option linter.unusedVariables false
set_option linter.unusedSimpArgs false
namespace Go.Oct.Clock
open Go.Oct
noncomputable def coneV (T : List Int) (R : List Span) (a e : Span) (D : List Span) : List Span × Int := if askE T R a e D = 0 then (cones T R a e D D.length, 0) else ([], askE T R a e D)
theorem ask0 {T : List Int} {R : List Span} {a e : Span} {D : List Span} (h0 : askE T R a e D = 0) : okClk T R a e ∧ okDays T D := by
  unfold askE at h0
  split at h0
  · split at h0
    · exact ⟨by assumption, by assumption⟩
    · cases h0
  · cases h0
/-- One temperature more. -/
theorem dayF_step {T : List Int} {R : List Span} {a e : Span} {D : List Span} (h : okClk T R a e) (hd : okDays T D) {i : Nat} (hi : i < D.length) {m : Nat} (hm : (m : Int) + 1 ≤ (nth D i).hi - (nth D i).lo) :
    dayF T R a (nth D i) i (m + 1) = ⟨min (min (dayF T R a (nth D i) i m).lo (rateS T R a ((nth D i).lo + (m + 1 : Nat)) i).lo) (rateS T R a ((nth D i).lo + (m + 1 : Nat)) i).hi, max (max (dayF T R a (nth D i) i m).hi (rateS T R a ((nth D i).lo + (m + 1 : Nat)) i).lo) (rateS T R a ((nth D i).lo + (m + 1 : Nat)) i).hi⟩ := by
  have hdl := hd.1
  have hq := day_in hd hi (q := m + 1) (by omega)
  have h1 := (rateS_bd h hq.1 hq.2 (show i ≤ 59 by omega)).2.2
  simp only [dayF, minF, maxF, Span.mk.injEq]
  omega
noncomputable def cur (T : List Int) (R : List Span) (a d : Span) (i : Nat) : Nat → Span
  | 0 => ⟨0, 0⟩
  | m + 1 => dayF T R a d i m
theorem cur_step {T : List Int} {R : List Span} {a e : Span} {D : List Span} (h : okClk T R a e) (hd : okDays T D) {i : Nat} (hi : i < D.length) {m : Nat} (h0 : ¬ m = 0) (hm : (m : Int) ≤ (nth D i).hi - (nth D i).lo) :
    cur T R a (nth D i) i (m + 1) = ⟨min (min (cur T R a (nth D i) i m).lo (rateS T R a ((nth D i).lo + (m : Int)) i).lo) (rateS T R a ((nth D i).lo + (m : Int)) i).hi, max (max (cur T R a (nth D i) i m).hi (rateS T R a ((nth D i).lo + (m : Int)) i).lo) (rateS T R a ((nth D i).lo + (m : Int)) i).hi⟩ := by
  obtain ⟨n, rfl⟩ : ∃ n, m = n + 1 := ⟨m - 1, by omega⟩
  exact dayF_step h hd hi (by omega)
theorem ConeR_ok (nT nR nD : Bool) (T : List Int) (R : List Span) (a e : Span) (D : List Span) (hT : T.length < 2 ^ 62) (hR : R.length < 2 ^ 62) (hD : D.length < 2 ^ 62) :
    ans prog O 20 [eClk nT nR T R a e, vl eSpan nD D] = some (.tuple [vl eSpan (coneV T R a e D).1.isEmpty (coneV T R a e D).1, .int .i64 (coneV T R a e D).2]) := by
  refine fn_of' pl get20 (oo (by decide)) rfl rfl ?_
  by_cases h0 : askE T R a e D = 0
  · obtain ⟨hc, hdy⟩ := ask0 h0
    have hdl := hdy.1
    have hTl := (okT_of hc).1
    have hv : coneV T R a e D = (cones T R a e D D.length, 0) := by unfold coneV; rw [if_pos h0]
    rw [hv]
    simp (disch := omega) [h0, -Bool.exists_bool]
    refine lp_loop pl (fun k fr σ => ∃ (j : Nat) (v : AV), j + k = D.length ∧ fr = ⟨[(1, vl eSpan nD D), (2, .ptr (some (0, 0))), (7, .ptr (some (1, 0))), (8, v), (9, .int .i64 j)], []⟩ ∧ σ.lim = 0 ∧ 2 ≤ σ.next ∧
      σ.get 0 = some (.cells [vs nT T, vl eSpan nR R, .int .i64 a.lo, .int .i64 a.hi, .int .i64 e.lo, .int .i64 e.hi]) ∧ σ.get 1 = some (.cells [.int .i64 (coneAt T R a e D j).lo, .int .i64 (coneAt T R a e D j).hi]) ∧ Buf 2 2 eSpan σ v (cones T R a e D j))
      ⟨D.length, 0, .vsl true [], by omega, rfl, by simp, by simp, by simp, by simp [coneAt], Buf.nil⟩ ?_
    rintro k _ σ ⟨j, v, hj, rfl, hl0, hn, hg0, hg1, hbuf⟩
    by_cases hjl : j < D.length
    · have hds := hdy.2 j hjl
      unfold isIn at hds
      have ht0 := (okT_of hc).2.1 0 (by omega)
      have htl := (okT_of hc).2.1 (T.length - 1) (by omega)
      simp (disch := omega) [Und, hl0, hn, hg0, hg1, hjl, -Bool.exists_bool]
      refine lp_loop pl (fun k2 fr σ' => ∃ m : Nat, (m : Int) + k2 = (nth D j).hi - (nth D j).lo + 1 ∧ fr = ⟨[(1, vl eSpan nD D), (2, .ptr (some (0, 0))), (7, .ptr (some (1, 0))), (8, v), (9, .int .i64 j), (10, .ptr (some (σ.next, 0))), (11, .int .i64 ((nth D j).lo + m))], []⟩ ∧ σ'.lim = 0 ∧ σ.next < σ'.next ∧
        σ'.get σ.next = some (.cells [.int .i64 (cur T R a (nth D j) j m).lo, .int .i64 (cur T R a (nth D j) j m).hi]) ∧ ∀ q, q < σ.next → σ'.get q = σ.get q)
        ⟨((nth D j).hi - (nth D j).lo + 1).toNat, 0, by omega, by simp, by simp [hl0], by simp, by simp [cur], fun q hq => by simp; omega⟩ ?_
      rintro k2 _ σ' ⟨m, hm, rfl, l0, l1, g1, g2⟩
      have e0 : σ'.get 0 = _ := (g2 0 (by omega)).trans hg0
      have e1 : σ'.get 1 = _ := (g2 1 (by omega)).trans hg1
      by_cases hmk : (m : Int) ≤ (nth D j).hi - (nth D j).lo
      · have hq := day_in hdy hjl hmk
        have hiR : inR T ((nth D j).lo + m) j := ⟨hq, by omega, by omega⟩
        have hrv : rateV T R a e ((nth D j).lo + m) j = (rateS T R a ((nth D j).lo + m) j, 0) := by unfold rateV; rw [if_pos hc, if_pos hiR]
        have hb := rateS_bd hc hq.1 hq.2 (show j ≤ 59 by omega)
        have hmk' : (nth D j).lo + (m : Int) ≤ (nth D j).hi := by omega
        have n1 : ¬ σ.next = σ'.next := by omega
        have n2 : σ.next < σ'.next + 1 := by omega
        by_cases hm0 : m = 0
        · subst hm0
          have hrv0 : rateV T R a e (nth D j).lo j = (rateS T R a (nth D j).lo j, 0) := by simpa using hrv
          have hmk0 : (nth D j).lo ≤ (nth D j).hi := by omega
          have hmk1 : ¬ (nth D j).hi < (nth D j).lo := by omega
          simp (disch := omega) [Und, l0, e0, e1, g1, hjl, hrv0, hmk0, hmk1, n1, n2, eSpan, -Bool.exists_bool]
          have hcz : cur T R a (nth D j) j 1 = rateS T R a (nth D j).lo j := by simp [cur, dayF, minF, maxF]
          have hb0 : (rateS T R a (nth D j).lo j).lo ≤ (rateS T R a (nth D j).lo j).hi := by simpa using hb.2.2
          refine ⟨k2 - 1, by omega, 1, by omega, ?_, ⟨by rw [hcz]; omega, by rw [hcz]; omega⟩, fun q hq => by rw [if_neg (by omega), if_neg (by omega), if_neg (by omega)]; exact g2 q hq⟩
          first | rfl | omega
        · have hne : ¬ (nth D j).lo + (m : Int) = (nth D j).lo := by omega
          have n3 : ¬ σ'.next = σ.next := by omega
          simp (disch := omega) [Und, l0, e0, e1, g1, hjl, hrv, hmk', n1, n2, n3, eSpan, hm0, hne, -Bool.exists_bool]
          have hcs := cur_step hc hdy hjl hm0 hmk
          refine ⟨k2 - 1, by omega, m + 1, by omega, ?_, ⟨by rw [hcs]; simp only []; omega, by rw [hcs]; simp only []; omega⟩, fun q hq => by rw [if_neg (by omega), if_neg (by omega), if_neg (by omega)]; exact g2 q hq⟩
          omega
      · have hmk' : ¬ (nth D j).lo + (m : Int) ≤ (nth D j).hi := by omega
        have hcur : cur T R a (nth D j) j m = dayR T R a (nth D j) j := by
          obtain rfl : m = ((nth D j).hi - (nth D j).lo).toNat + 1 := by omega
          rfl
        have b1 := cone_bd hc hdy j (by omega)
        have b2 : (-160000 ≤ (dayR T R a (nth D j) j).lo ∧ (dayR T R a (nth D j) j).lo ≤ 160000) ∧ (-160000 ≤ (dayR T R a (nth D j) j).hi ∧ (dayR T R a (nth D j) j).hi ≤ 160000) := dayF_bd hc hdy hjl (by omega)
        have n1 : 1 < σ'.next := by omega
        simp (disch := omega) [Und, l0, e0, e1, g1, hjl, hmk', hcur, n1, -Bool.exists_bool]
        have hb2 : Buf 2 2 eSpan (σ'.set 1 (.cells [.int .i64 ((coneAt T R a e D j).lo + (dayR T R a (nth D j) j).lo), .int .i64 ((coneAt T R a e D j).hi + (dayR T R a (nth D j) j).hi)])) v (cones T R a e D j) :=
          hbuf.keep fun i h1 h2 => by rw [AH.get_set_other _ _ _ _ (by omega)]; exact g2 i h2
        refine hb2.push encSpan (by show σ'.lim ≤ 2; omega) (by show 2 ≤ σ'.next; omega) (coneAt T R a e D (j + 1)) (by rw [cones_len]; simp only [topBytes]; omega) rfl fun v' σ'' h1 h2 => ?_
        have hlim : σ''.lim = σ'.lim := h2.lim
        have hnext : σ'.next ≤ σ''.next := h2.next
        simp (disch := omega) [-Bool.exists_bool]
        exact ⟨k - 1, by omega, j + 1, by omega, v', ⟨rfl, by omega⟩, by omega, by omega, by rw [h2.get 0 (by omega), AH.get_set_other _ _ _ _ (by omega)]; exact e0, by rw [h2.get 1 (by omega), AH.get_set_same _ _ _ (by omega)]; rfl, by rw [cones_succ]; exact h1⟩
    · obtain rfl : j = D.length := by omega
      simp (disch := omega) [Und, hl0, hn, hg0, hg1, -Bool.exists_bool]
      exact hbuf.fz encSpan 5 (fun x _ => by simp [eSpan])
  · have hv : coneV T R a e D = ([], askE T R a e D) := by unfold coneV; rw [if_neg h0]
    rw [hv]
    simp (disch := omega) [h0]
    rfl
end Go.Oct.Clock
