/- ClockEnds: the walk. -/
import Derived.Test.YtpccnjgeddjfjaaOClockEnd
import Derived.Test.YtpccnjgeddjfjaaOClockCho
import Derived.Test.YtpccnjgeddjfjaaOClockConW
import Derived.Test.YtpccnjgeddjfjaaOClockErr2
import Derived.Test.YtpccnjgeddjfjaaOT4
import Derived.Test.YtpccnjgeddjfjaaOT3
set_option maxRecDepth 100000
set_option maxHeartbeats 8000000
set_option linter.unusedVariables false
set_option linter.unusedSimpArgs false
namespace Go.Oct.Clock
open Go.Oct
/-- Slices that were grown, n of them, apart from one another. -/
structure Bufs (n lo : Nat) (σ : AH) (V : Nat → AV) (X : Nat → List Int) : Prop where
  buf : ∀ k, k < n → Buf lo 1 (AV.int .i64) σ (V k) (X k)
  dis : ∀ k l, k < n → l < n → k ≠ l → ∀ i ∈ obj (V k), i ∉ obj (V l)
theorem Bufs.put {n lo : Nat} {σ σ' : AH} {V : Nat → AV} {X : Nat → List Int} (h : Bufs n lo σ V X) {k : Nat} {v' : AV} {xs' : List Int} (b : Buf lo 1 (AV.int .i64) σ' v' xs') (g : Grew lo (V k) v' σ σ') (hk : k < n) :
    Bufs n lo σ' (fun q => if q = k then v' else V q) (fun q => if q = k then xs' else X q) := by
  have hlt : ∀ q, q < n → ∀ i ∈ obj (V q), i < σ.next := fun q hq i hi => ((h.buf q hq).obj_lt i hi).2
  refine ⟨fun q hq => ?_, fun q l hq hl hql i hi => ?_⟩
  · by_cases e : q = k
    · simpa [e] using b
    · simp only [e, if_false]
      exact (h.buf q hq).stay g.only fun i hi => h.dis q k hq hk e i hi
  · by_cases e : q = k
    · subst e
      simp only [if_true] at hi
      have e2 : ¬ l = q := fun e => hql e.symm
      simp only [e2, if_false]
      intro hi2
      rcases g.fresh i hi with h1 | h1
      · exact h.dis q l hq hl hql i h1 hi2
      · have := hlt l hl i hi2; omega
    · simp only [e, if_false] at hi
      by_cases e2 : l = k
      · subst e2
        simp only [if_true]
        intro hi2
        rcases g.fresh i hi2 with h1 | h1
        · exact h.dis q l hq hl hql i hi h1
        · have := hlt q hq i hi; omega
      · simp only [e2, if_false]
        exact h.dis q l hq hl hql i hi
theorem Bufs.stay {n lo : Nat} {σ σ' : AH} {V : Nat → AV} {X : Nat → List Int} (h : Bufs n lo σ V X) (hs : ∀ i, lo ≤ i → i < σ.next → σ'.get i = σ.get i) : Bufs n lo σ' V X :=
  ⟨fun k hk => (h.buf k hk).keep hs, h.dis⟩
theorem Bufs.congr {n lo : Nat} {σ : AH} {V V' : Nat → AV} {X X' : Nat → List Int} (h : Bufs n lo σ V X) (hv : ∀ k, k < n → V' k = V k) (hx : ∀ k, k < n → X' k = X k) : Bufs n lo σ V' X' :=
  ⟨fun k hk => by rw [hv k hk, hx k hk]; exact h.buf k hk, fun k l hk hl hkl i => by rw [hv k hk, hv l hl]; exact h.dis k l hk hl hkl i⟩
theorem ends_succ {b : Bool} {R : List Span} {j : Nat} (h : j < R.length) : ends b (R.take (j + 1)) = ends b (R.take j) ++ [if b then (nth R j).hi else (nth R j).lo] := by
  rw [take_succ_nth h]; unfold ends; simp
section
variable (T : List Int) (R : List Span) (a e : Span) (D : List Span)
noncomputable def Xf (i j : Nat) : Nat → List Int := fun k => if k = 0 then ends false (R.take i) else if k = 1 then ends true (R.take i) else if k = 2 then colds T R a D j else warms T R a D j
/-- The heap of the law: the clock; the two truths. -/
structure EH (nT nR : Bool) (i j : Nat) (V : Nat → AV) (σ : AH) : Prop where
  lim : σ.lim = 0
  nx : 3 ≤ σ.next
  g0 : σ.get 0 = some (.cells [vs nT T, vl eSpan nR R, .int .i64 a.lo, .int .i64 a.hi, .int .i64 e.lo, .int .i64 e.hi])
  g1 : σ.get 1 = some (.cells [V 0, .int .i64 a.lo, .int .i64 e.lo, V 2])
  g2 : σ.get 2 = some (.cells [V 1, .int .i64 a.hi, .int .i64 e.hi, V 3])
  bufs : Bufs 4 3 σ V (Xf T R a D i j)
end
theorem under_z {σ : AH} (h : σ.lim = 0) : σ.under 0 = σ := by
  have := AH.under_self σ
  rw [h] at this
  exact this
theorem toE_ok (x y : Int) : ans prog O 35 [.int .i64 x, .int .i64 y] = some (.agg [.int .i64 x, .int .i64 y]) := by
  refine fn_of' pl get35 (oo (by decide)) rfl rfl ?_
  simp
theorem eq_sp (s : Span) : eSpan s = .agg [.int .i64 s.lo, .int .i64 s.hi] := rfl
theorem three_get {s : AH} {o1 o2 o3 p1 p2 p3 : AObj} {i : Nat} (hi : i < s.next) : ((((((s.push o1).set s.next p1).push o2).set (s.next + 1) p2).push o3).set (s.next + 1 + 1) p3).get i = s.get i := by
  rw [AH.get_set_other _ _ _ _ (by omega), AH.get_push_old _ _ _ (by simp; omega), AH.get_set_other _ _ _ _ (by omega), AH.get_push_old _ _ _ (by simp; omega), AH.get_set_other _ _ _ _ (by omega), AH.get_push_old _ _ _ (by omega)]
theorem ClockEnds_main (nT nR nD : Bool) (T : List Int) (R : List Span) (a e : Span) (D : List Span) (hT : T.length < 2 ^ 62) (hR : R.length < 2 ^ 62) (hD : D.length < 2 ^ 62) :
    ans prog O 8 [eClk nT nR T R a e, vl eSpan nD D] = some (.bool true) := by
  have hco := Cone_ok nT nR nD T R a e D hT hR hD
  refine fn_of' pl get8 (oo (by decide)) rfl rfl ?_
  by_cases h0 : askE T R a e D = 0
  · obtain ⟨hc, hdy⟩ := ask0 h0
    have hdl := hdy.1
    have hTl := (okT_of hc).1
    have hRl : R.length = T.length := by have := hc.1.2.1; omega
    have hcv : coneV T R a e D = (cones T R a e D D.length, 0) := by unfold coneV; rw [if_pos h0]
    rw [hcv] at hco
    have hcl : (cones T R a e D D.length).length = D.length := cones_len ..
    have q1 : ¬ (60 : Int) < D.length := by omega
    simp (disch := omega) [hco, hc, hcl, q1, -Bool.exists_bool]
    refine lp_loop pl (fun k fr σ => ∃ (i : Nat) (V : Nat → AV), i + k = R.length ∧ fr = ⟨[(1, vl eSpan nD D), (2, .ptr (some (0, 0))), (5, vl eSpan (cones T R a e D D.length).isEmpty (cones T R a e D D.length)), (7, .ptr (some (1, 0))), (8, .ptr (some (2, 0))), (9, .int .i64 i)], []⟩ ∧ EH T R a e D nT nR i 0 V σ)
      ⟨R.length, 0, fun _ => .vsl true [], by omega, rfl, by simp, by simp, by simp, by simp, by simp, fun k hk => .inl ⟨rfl, by simp [Xf, ends, colds, warms]⟩, fun _ _ _ _ _ i hi => by simp [obj] at hi⟩ ?_
    rintro k _ σ ⟨i, V, hi, rfl, hl0, hn, hg0, hg1, hg2, hB⟩
    have m0 : 0 < σ.next := by omega
    have m1 : 1 < σ.next := by omega
    have m2 : 2 < σ.next := by omega
    by_cases hir : i < R.length
    · simp (disch := omega) [Und, hl0, hn, hg0, hg1, hg2, hir, m0, m1, m2, -Bool.exists_bool]
      have hx0 : Xf T R a D i 0 0 = ends false (R.take i) := rfl
      have hx1 : Xf T R a D i 0 1 = ends true (R.take i) := rfl
      have tl : (R.take i).length = i := by rw [List.length_take]; omega
      refine (hB.buf 0 (by omega)).apk encI (by omega) (by simp; omega) (by simp) (fun q hq => ⟨((hB.buf 0 (by omega)).obj_lt q hq).2, by simp⟩) (nth R i).lo (by rw [hx0, ends_len, tl]; simp only [topBytes]; omega) rfl fun v' σ' sts b1 z1 hsts => ?_
      have o3 : ∀ q ∈ obj (V 0), 3 ≤ q := fun q hq => ((hB.buf 0 (by omega)).obj_lt q hq).1
      have ns : ∀ q, q < 3 → q ∉ sts := fun q hq hin => by
        rcases hsts q hin with h | h
        · simp at h
        · have := o3 q h; omega
      have ns0 := ns 0 (by omega)
      have ns2 := ns 2 (by omega)
      have g0 := (z1.get 0 (by omega)).trans hg0
      have g1 := (z1.get 1 (by omega)).trans hg1
      have g2 := (z1.get 2 (by omega)).trans hg2
      have hnx := z1.next
      have hlim := z1.lim
      have B1 := hB.put b1 z1 (by omega)
      simp (disch := omega) [Und, hl0, hn, g0, g1, g2, hir, m0, m1, m2, ns0, ns2, -Bool.exists_bool]
      refine (B1.buf 1 (by omega)).pushT encI (by omega) (by omega) (nth R i).hi (by simp only [show ¬ (1 : Nat) = 0 by omega, if_false]; rw [hx1, ends_len, tl]; simp only [topBytes]; omega) rfl fun w' τ b2 z2 => ?_
      have B2 := B1.put b2 z2 (by omega)
      have hnx2 := z2.next
      have hlim2 := z2.lim
      have p0 := (z2.get 0 (by omega)).trans g0
      have p1 := (z2.get 1 (by omega)).trans g1
      have p2 := (z2.get 2 (by omega)).trans g2
      have l' : τ.lim = 0 := by omega
      obtain ⟨w1, w2, w3⟩ := bufVal b1
      obtain ⟨x1, x2, x3⟩ := bufVal b2
      have n1 : 1 < τ.next := by omega
      have n2 : 2 < τ.next := by omega
      simp (disch := omega) [p0, p1, p2, l', w1, w2, w3, x1, x2, x3, n1, n2, -Bool.exists_bool]
      refine ⟨k - 1, by omega, i + 1, by omega, by omega, fun q => if q = 1 then w' else if q = 0 then v' else V q, ⟨by simpa using l', by simp; omega, ?_, ?_, ?_, ?_⟩⟩
      · simp (disch := omega) [p0]
      · simp (disch := omega) [n1]
      · simp (disch := omega) [n2]
      · refine (B2.congr (fun q _ => rfl) fun q hq => ?_).stay fun q h1 h2 => by rw [AH.get_set_other _ _ _ _ (by omega), AH.get_set_other _ _ _ _ (by omega)]
        have e0 := ends_succ (b := false) hir
        have e1 := ends_succ (b := true) hir
        simp only [Bool.false_eq_true, if_false, if_true] at e0 e1
        obtain rfl | rfl | rfl | rfl : q = 0 ∨ q = 1 ∨ q = 2 ∨ q = 3 := by omega
        · simpa [Xf] using e0
        · simpa [Xf] using e1
        · rfl
        · rfl
    · obtain rfl : i = R.length := by omega
      simp (disch := omega) [Und, hl0, hn, hg0, hg1, hg2, hir, m0, m1, m2, -Bool.exists_bool]
      refine lp_loop pl (fun k fr σ => ∃ (j : Nat) (V : Nat → AV), j + k = D.length ∧ fr = ⟨[(1, vl eSpan nD D), (2, .ptr (some (0, 0))), (5, vl eSpan (cones T R a e D D.length).isEmpty (cones T R a e D D.length)), (7, .ptr (some (1, 0))), (8, .ptr (some (2, 0))), (10, .int .i64 j)], []⟩ ∧ EH T R a e D nT nR R.length j V σ)
        ⟨D.length, 0, V, by omega, rfl, hl0, hn, hg0, hg1, hg2, hB⟩ ?_
      clear hB hg0 hg1 hg2 hl0 hn m0 m1 m2 hir hi
      rintro k _ σ ⟨j, V, hj, rfl, hl0, hn, hg0, hg1, hg2, hB⟩
      have m0 : 0 < σ.next := by omega
      have m1 : 1 < σ.next := by omega
      have m2 : 2 < σ.next := by omega
      by_cases hjl : j < D.length
      · have hdj := hdy.2 j hjl
        unfold isIn at hdj
        have ht0 := (okT_of hc).2.1 0 (by omega)
        have htl := (okT_of hc).2.1 (T.length - 1) (by omega)
        simp (disch := omega) [Und, hl0, hn, hg0, hg1, hg2, hjl, m0, m1, m2, -Bool.exists_bool]
        have hwd : ((width D j : Nat) : Int) = (nth D j).hi - (nth D j).lo := by unfold width; omega
        refine lp_loop pl (fun k2 fr s => ∃ q : Nat, q + k2 = width D j + 1 ∧ fr = ⟨[(1, vl eSpan nD D), (2, .ptr (some (0, 0))), (5, vl eSpan (cones T R a e D D.length).isEmpty (cones T R a e D D.length)), (7, .ptr (some (1, 0))), (8, .ptr (some (2, 0))), (10, .int .i64 j), (11, .int .i64 ((nth D j).lo + coldF (fLo T R a D j) (q - 1))), (12, .int .i64 ((nth D j).lo + warmF (fHi T R a D j) (q - 1))), (13, .int .i64 ((nth D j).lo + q))], []⟩ ∧ EH T R a e D nT nR R.length j V s)
          ⟨width D j + 1, 0, by omega, by simp [coldF, warmF], hl0, hn, hg0, hg1, hg2, hB⟩ ?_
        clear hB hg0 hg1 hg2 hl0 hn m0 m1 m2
        rintro k2 _ s ⟨q, hq, rfl, hl0, hn, hg0, hg1, hg2, hB⟩
        have m0 : 0 < s.next := by omega
        have m1 : 1 < s.next := by omega
        have m2 : 2 < s.next := by omega
        by_cases hqw : q ≤ width D j
        · have hce := cold_step (f := fLo T R a D j) (q := q)
          have hwe := warm_step (f := fHi T R a D j) (q := q)
          have hcq := cold_le (fLo T R a D j) (q - 1)
          have hwq := warm_le (fHi T R a D j) (q - 1)
          generalize hcc : coldF (fLo T R a D j) (q - 1) = c at hce hcq
          generalize hww : warmF (fHi T R a D j) (q - 1) = w at hwe hwq
          have hr : ∀ t : Int, (nth D j).lo ≤ t → t ≤ (nth D j).hi → ans prog O 15 [eClk nT nR T R a e, .int .i64 t, .int .i64 j] = some (.tuple [eSpan (rateS T R a t j), .int .i64 0]) := fun t t1 t2 => by
            have hiR : inR T t j := ⟨⟨by omega, by omega⟩, by omega, by omega⟩
            have h := Rate_ok nT nR T R a e t j hT hR
            rw [show rateV T R a e t j = (rateS T R a t j, 0) by unfold rateV; rw [if_pos hc, if_pos hiR]] at h
            exact h
          have r1 := hr ((nth D j).lo + q) (by omega) (by omega)
          have r2 := hr ((nth D j).lo + c) (by omega) (by omega)
          have r3 := hr ((nth D j).lo + w) (by omega) (by omega)
          have k0 : ¬ 0 = s.next := by omega
          have k1 : ¬ s.next = s.next + 1 := by omega
          have k2' : ¬ s.next = s.next + 1 + 1 := by omega
          have k3 : ¬ s.next + 1 = s.next + 1 + 1 := by omega
          have k4 : ¬ s.next + 1 = s.next := by omega
          have k5 : ¬ s.next + 1 + 1 = s.next := by omega
          have k6 : ¬ s.next + 1 + 1 = s.next + 1 := by omega
          have df : ∀ z : Span, (eSpan z).dfd = true := fun _ => rfl
          have le1 : (nth D j).lo + (q : Int) ≤ (nth D j).hi := by omega
          have fin : ∀ c' w' : Nat, coldF (fLo T R a D j) (q + 1 - 1) = c' → warmF (fHi T R a D j) (q + 1 - 1) = w' → ∀ σ : AH, σ.lim = 0 → s.next ≤ σ.next → (∀ i, i < s.next → σ.get i = s.get i) → ∃ k', k' < k2 ∧ ∃ q' : Nat, q' + k' = width D j + 1 ∧ ((c' : Int) = coldF (fLo T R a D j) (q' - 1) ∧ (w' : Int) = warmF (fHi T R a D j) (q' - 1) ∧ (nth D j).lo + (q : Int) + 1 = (nth D j).lo + q') ∧ EH T R a e D nT nR R.length j V σ := fun c' w' e1 e2 σ e3 e4 e5 => by
            refine ⟨k2 - 1, by omega, q + 1, by omega, ⟨by rw [e1], by rw [e2], by omega⟩, e3, by omega, ?_, ?_, ?_, hB.stay fun i h1 h2 => e5 i h2⟩
            · rw [e5 0 (by omega)]; exact hg0
            · rw [e5 1 (by omega)]; exact hg1
            · rw [e5 2 (by omega)]; exact hg2
          by_cases c1 : (rateS T R a ((nth D j).lo + q) j).lo < (rateS T R a ((nth D j).lo + c) j).lo
          · have ec : coldF (fLo T R a D j) (q + 1 - 1) = q := by rw [hce, if_pos (show fLo T R a D j q < fLo T R a D j c from c1)]
            by_cases c2 : (rateS T R a ((nth D j).lo + w) j).hi < (rateS T R a ((nth D j).lo + q) j).hi
            · have ew : warmF (fHi T R a D j) (q + 1 - 1) = q := by rw [hwe, if_pos (show fHi T R a D j q > fHi T R a D j w from c2)]
              simp (disch := omega) [Und, hl0, hn, hg0, hg1, hg2, hjl, m0, m1, m2, k0, k1, k2', k3, k4, k5, k6, df, r1, r2, r3, c1, c2, le1, -Bool.exists_bool]
              exact fin q q ec ew _ (by simpa using hl0) (by simp; omega) fun i hi => three_get hi
            · have ew : warmF (fHi T R a D j) (q + 1 - 1) = w := by rw [hwe, if_neg (show ¬ fHi T R a D j q > fHi T R a D j w from c2)]
              simp (disch := omega) [Und, hl0, hn, hg0, hg1, hg2, hjl, m0, m1, m2, k0, k1, k2', k3, k4, k5, k6, df, r1, r2, r3, c1, c2, le1, -Bool.exists_bool]
              exact fin q w ec ew _ (by simpa using hl0) (by simp; omega) fun i hi => three_get hi
          · have ec : coldF (fLo T R a D j) (q + 1 - 1) = c := by rw [hce, if_neg (show ¬ fLo T R a D j q < fLo T R a D j c from c1)]
            by_cases c2 : (rateS T R a ((nth D j).lo + w) j).hi < (rateS T R a ((nth D j).lo + q) j).hi
            · have ew : warmF (fHi T R a D j) (q + 1 - 1) = q := by rw [hwe, if_pos (show fHi T R a D j q > fHi T R a D j w from c2)]
              simp (disch := omega) [Und, hl0, hn, hg0, hg1, hg2, hjl, m0, m1, m2, k0, k1, k2', k3, k4, k5, k6, df, r1, r2, r3, c1, c2, le1, -Bool.exists_bool]
              exact fin c q ec ew _ (by simpa using hl0) (by simp; omega) fun i hi => three_get hi
            · have ew : warmF (fHi T R a D j) (q + 1 - 1) = w := by rw [hwe, if_neg (show ¬ fHi T R a D j q > fHi T R a D j w from c2)]
              simp (disch := omega) [Und, hl0, hn, hg0, hg1, hg2, hjl, m0, m1, m2, k0, k1, k2', k3, k4, k5, k6, df, r1, r2, r3, c1, c2, le1, -Bool.exists_bool]
              exact fin c w ec ew _ (by simpa using hl0) (by simp; omega) fun i hi => three_get hi
        · obtain rfl : q = width D j + 1 := by omega
          have le1 : ¬ (nth D j).lo + ((width D j + 1 : Nat) : Int) ≤ (nth D j).hi := by omega
          have le2 : ¬ (nth D j).lo + (((width D j : Nat) : Int) + 1) ≤ (nth D j).hi := by omega
          simp (disch := omega) [Und, hl0, hn, hg0, hg1, hg2, hjl, m0, m1, m2, le1, le2, -Bool.exists_bool]
          have hx2 : Xf T R a D R.length j 2 = colds T R a D j := rfl
          have hx3 : Xf T R a D R.length j 3 = warms T R a D j := rfl
          refine (hB.buf 2 (by omega)).apk encI (by omega) (by simp; omega) (by simp) (fun q hq => ⟨((hB.buf 2 (by omega)).obj_lt q hq).2, by simp⟩) ((nth D j).lo + (coldF (fLo T R a D j) (width D j) : Nat)) (by rw [hx2, colds_len]; simp only [topBytes]; omega) rfl fun v' σ' sts b1 z1 hsts => ?_
          have o3 : ∀ q ∈ obj (V 2), 3 ≤ q := fun q hq => ((hB.buf 2 (by omega)).obj_lt q hq).1
          have ns2 : 2 ∉ sts := fun hin => by
            rcases hsts 2 hin with h | h
            · simp at h
            · have := o3 2 h; omega
          have g0 := (z1.get 0 (by omega)).trans hg0
          have g1 := (z1.get 1 (by omega)).trans hg1
          have g2 := (z1.get 2 (by omega)).trans hg2
          have hnx := z1.next
          have hlim := z1.lim
          have B1 := hB.put b1 z1 (by omega)
          simp (disch := omega) [Und, hl0, hn, g0, g1, g2, hjl, m0, m1, m2, ns2, -Bool.exists_bool]
          refine (B1.buf 3 (by omega)).pushT encI (by omega) (by omega) ((nth D j).lo + (warmF (fHi T R a D j) (width D j) : Nat)) (by simp only [show ¬ (3 : Nat) = 2 by omega, if_false]; rw [hx3, warms_len]; simp only [topBytes]; omega) rfl fun w' τ b2 z2 => ?_
          have B2 := B1.put b2 z2 (by omega)
          have hnx2 := z2.next
          have hlim2 := z2.lim
          have p0 := (z2.get 0 (by omega)).trans g0
          have p1 := (z2.get 1 (by omega)).trans g1
          have p2 := (z2.get 2 (by omega)).trans g2
          have l' : τ.lim = 0 := by omega
          obtain ⟨w1, w2, w3⟩ := bufVal b1
          obtain ⟨x1, x2, x3⟩ := bufVal b2
          have n1 : 1 < τ.next := by omega
          have n2 : 2 < τ.next := by omega
          simp (disch := omega) [p0, p1, p2, l', w1, w2, w3, x1, x2, x3, n1, n2, -Bool.exists_bool]
          refine ⟨k - 1, by omega, j + 1, by omega, by omega, fun q => if q = 3 then w' else if q = 2 then v' else V q, ⟨by simpa using l', by simp; omega, ?_, ?_, ?_, ?_⟩⟩
          · simp (disch := omega) [p0]
          · simp (disch := omega) [n1]
          · simp (disch := omega) [n2]
          · refine (B2.congr (fun q _ => rfl) fun q hq => ?_).stay fun q h1 h2 => by rw [AH.get_set_other _ _ _ _ (by omega), AH.get_set_other _ _ _ _ (by omega)]
            obtain rfl | rfl | rfl | rfl : q = 0 ∨ q = 1 ∨ q = 2 ∨ q = 3 := by omega
            · rfl
            · rfl
            · simpa [Xf] using colds_succ T R a D j
            · simpa [Xf] using warms_succ T R a D j
      · obtain rfl : j = D.length := by omega
        simp (disch := omega) [Und, hl0, hn, hg0, hg1, hg2, hjl, m0, m1, m2, -Bool.exists_bool]
        have t1 : Xf T R a D R.length D.length 0 = ends false R := by simp [Xf]
        have t2 : Xf T R a D R.length D.length 1 = ends true R := by simp [Xf]
        have t3 : Xf T R a D R.length D.length 2 = colds T R a D D.length := rfl
        have t4 : Xf T R a D R.length D.length 3 = warms T R a D D.length := rfl
        have b0 := hB.buf 0 (by omega)
        have b1 := hB.buf 1 (by omega)
        have b2 := hB.buf 2 (by omega)
        have b3 := hB.buf 3 (by omega)
        rw [t1] at b0
        rw [t2] at b1
        rw [t3] at b2
        rw [t4] at b3
        have cV : ∀ q, q < 4 → closed 7 (V q) = false := fun q hq => by
          rcases hB.buf q hq with ⟨_, h⟩ | ⟨i, h, _⟩
          · exfalso
            have l1 := ends_len false R
            have l2 := ends_len true R
            have l3 := colds_len T R a D D.length
            have l4 := warms_len T R a D D.length
            obtain rfl | rfl | rfl | rfl : q = 0 ∨ q = 1 ∨ q = 2 ∨ q = 3 := by omega
            · rw [t1] at h; rw [h] at l1; simp at l1; omega
            · rw [t2] at h; rw [h] at l2; simp at l2; omega
            · rw [t3] at h; rw [h] at l3; simp at l3; omega
            · rw [t4] at h; rw [h] at l4; simp at l4; omega
          · rw [h]; rfl
        have cV0 := cV 0 (by omega)
        have cV1 := cV 1 (by omega)
        have lt1 := low_tru hc hdy
        have lt2 := high_tru hc hdy
        have e1 := Errors_ok nT nR nD (ends false R).isEmpty (colds T R a D D.length).isEmpty T R a e D (ends false R) a.lo e.lo (colds T R a D D.length) hT hR hD (by rw [ends_len]; exact hR) (by rw [colds_len]; exact hD)
        have e2 := Errors_ok nT nR nD (ends true R).isEmpty (warms T R a D D.length).isEmpty T R a e D (ends true R) a.hi e.hi (warms T R a D D.length) hT hR hD (by rw [ends_len]; exact hR) (by rw [warms_len]; exact hD)
        rw [show errV T R a e D (ends false R) a.lo e.lo (colds T R a D D.length) = (errs T (ends false R) a.lo e.lo (colds T R a D D.length) D.length, 0) by unfold errV; rw [if_pos h0, if_pos lt1]] at e1
        rw [show errV T R a e D (ends true R) a.hi e.hi (warms T R a D D.length) = (errs T (ends true R) a.hi e.hi (warms T R a D D.length) D.length, 0) by unfold errV; rw [if_pos h0, if_pos lt2]] at e2
        have hel1 : (errs T (ends false R) a.lo e.lo (colds T R a D D.length) D.length).length = D.length := errs_len ..
        have hel2 : (errs T (ends true R) a.hi e.hi (warms T R a D D.length) D.length).length = D.length := errs_len ..
        have n1 : ∀ i, i < D.length → nth (errs T (ends false R) a.lo e.lo (colds T R a D D.length) D.length) i = (coneAt T R a e D (i + 1)).lo := fun i hi => by rw [nth_errs hi, low_acc hc hdy (i + 1) (by omega)]
        have n2 : ∀ i, i < D.length → nth (errs T (ends true R) a.hi e.hi (warms T R a D D.length) D.length) i = (coneAt T R a e D (i + 1)).hi := fun i hi => by rw [nth_errs hi, high_acc hc hdy (i + 1) (by omega)]
        refine pc_kill (.cons (SnapK.snap (SnapK.agg (.cons (SnapK.vl _ _ _ _ _) (.cons (SnapK.vl _ _ _ _ _) (.cons (SnapK.int _ _ _ _) (.cons (SnapK.int _ _ _ _) (.cons (SnapK.int _ _ _ _) (.cons (SnapK.int _ _ _ _) .nil)))))))) (.cons (SnapK.snap (SnapK.vl _ _ _ _ _)) (.cons (SnapK.snap (SnapK.agg (.cons ⟨b0.ids flatI 5, fun T hT => b0.snap encI flatI hT 5⟩ (.cons (SnapK.int _ _ _ _) (.cons (SnapK.int _ _ _ _) (.cons ⟨b2.ids flatI 5, fun T hT => b2.snap encI flatI hT 5⟩ .nil)))))) .nil))) (fun h => by rw [cV0] at h; simp at h) (by simp) (oo (args := []) (by decide)).1 (fun i _ => by omega) e1 fun σ2 o2 => ?_
        generalize hE1 : errs T (ends false R) a.lo e.lo (colds T R a D D.length) D.length = E1 at hel1 n1
        have hS : ∀ q, q = 1 ∨ q = 3 → ∀ i ∈ obj (V q), σ2.get i = σ.get i := fun q hq i hi => by
          refine o2.get i ((hB.buf q (by omega)).obj_lt i hi).2 ?_
          simp only [List.nil_append, List.append_nil, List.mem_append, not_or]
          exact ⟨hB.dis q 0 (by omega) (by omega) (by omega) i hi, hB.dis q 2 (by omega) (by omega) (by omega) i hi⟩
        have hlow : ∀ i, i < 3 → σ2.get i = σ.get i := fun i hi => by
          refine o2.get i (by omega) ?_
          simp only [List.nil_append, List.append_nil, List.mem_append, not_or]
          exact ⟨fun h => by have := (b0.obj_lt i h).1; omega, fun h => by have := (b2.obj_lt i h).1; omega⟩
        have s0 := (hlow 0 (by omega)).trans hg0
        have s2 := (hlow 2 (by omega)).trans hg2
        have sl : σ2.lim = 0 := by have := o2.lim; omega
        have snx := o2.next
        have c1 : Buf 3 1 (AV.int .i64) σ2 (V 1) (ends true R) := by
          rcases b1 with h | ⟨i, q1, q2, q3, q4⟩
          · exact .inl h
          · exact .inr ⟨i, q1, q2, by rw [hS 1 (.inl rfl) i (by rw [q1]; simp [obj])]; exact q3, q4⟩
        have c3 : Buf 3 1 (AV.int .i64) σ2 (V 3) (warms T R a D D.length) := by
          rcases b3 with h | ⟨i, q1, q2, q3, q4⟩
          · exact .inl h
          · exact .inr ⟨i, q1, q2, by rw [hS 3 (.inr rfl) i (by rw [q1]; simp [obj])]; exact q3, q4⟩
        simp (disch := omega) [Und, sl, s0, s2, -Bool.exists_bool]
        refine pc_kill (.cons (SnapK.snap (SnapK.agg (.cons (SnapK.vl _ _ _ _ _) (.cons (SnapK.vl _ _ _ _ _) (.cons (SnapK.int _ _ _ _) (.cons (SnapK.int _ _ _ _) (.cons (SnapK.int _ _ _ _) (.cons (SnapK.int _ _ _ _) .nil)))))))) (.cons (SnapK.snap (SnapK.vl _ _ _ _ _)) (.cons (SnapK.snap (SnapK.agg (.cons ⟨c1.ids flatI 5, fun T hT => c1.snap encI flatI hT 5⟩ (.cons (SnapK.int _ _ _ _) (.cons (SnapK.int _ _ _ _) (.cons ⟨c3.ids flatI 5, fun T hT => c3.snap encI flatI hT 5⟩ .nil)))))) .nil))) (fun h => by rw [cV1] at h; simp at h) (by simp) (oo (args := []) (by decide)).1 (fun i _ => by omega) e2 fun σ3 o3 => ?_
        generalize hE2 : errs T (ends true R) a.hi e.hi (warms T R a D D.length) D.length = E2 at hel2 n2
        have sl3 : σ3.lim = 0 := by have := o3.lim; omega
        simp (disch := omega) [Und, sl3, hel1, hel2, hcl, -Bool.exists_bool]
        refine lp_loop pl (fun k fr σ => ∃ j : Nat, j + k = D.length ∧ fr = ⟨[(5, vl eSpan (cones T R a e D D.length).isEmpty (cones T R a e D D.length)), (20, vs E1.isEmpty E1), (21, vs E2.isEmpty E2), (23, .int .i64 j)], []⟩ ∧ σ.lim = 0) ⟨D.length, 0, by omega, rfl, sl3⟩ ?_
        rintro k _ σ4 ⟨j, hj, rfl, s4l⟩
        have hu := under_z s4l
        by_cases hjl : j < D.length
        · have m1 := n1 j hjl
          have m2 := n2 j hjl
          have m3 := nth_cones (T := T) (R := R) (a := a) (e := e) (D := D) hjl
          simp (disch := omega) [Und, hjl, s4l, hu, hel1, hel2, hcl, m1, m2, m3, toE_ok, eq_sp, -Bool.exists_bool]
          exact ⟨k - 1, by omega, j + 1, by omega, by omega⟩
        · obtain rfl : j = D.length := by omega
          simp (disch := omega) [Und, s4l, hu, hel1, hel2, hcl, -Bool.exists_bool]
  · have hcv : coneV T R a e D = ([], askE T R a e D) := by unfold coneV; rw [if_neg h0]
    rw [hcv] at hco
    have hd2 : ¬ askE T R a e D = 0 := h0
    simp (disch := omega) [hco, h0]
theorem ClockEnds_ok (nT nR : Bool) (T : List Int) (R : List Span) (a e : Span) (nD : Bool) (D : List Span) {x0 x1 x2 : AV}
    (h0 : Slice (AV.int .i64) i64 x0 nT T) (h1 : Slice eSpan (fun s => i64 s.lo ∧ i64 s.hi) x1 nR R) (h2 : Slice eSpan (fun s => i64 s.lo ∧ i64 s.hi) x2 nD D) :
    ans prog O 8 [eClk nT nR T R a e, vl eSpan nD D] = some (.bool true) := by
  have := h0.len; have := h1.len; have := h2.len
  exact ClockEnds_main nT nR nD T R a e D (by omega) (by omega) (by omega)
end Go.Oct.Clock
