/- Cones: the program's. -/
import Derived.Test.YtddkghgfbhhcdaaOCryConE
set_option maxRecDepth 100000
set_option maxHeartbeats 4000000
set_option linter.unusedVariables false
set_option linter.unusedSimpArgs false
namespace Go.Oct.Cry
open Go.Oct
theorem cells_iface (t : Nat) (v : AV) : (AV.iface t v).cells = [.iface t v] := rfl
theorem dfd_iface (t : Nat) (v : AV) : (AV.iface t v).dfd = true := rfl
theorem one_iface (t : Nat) (v : AV) : (AV.iface t v).one = true := rfl
theorem lst_get0 (f : Nat → Int) (n : Nat) : (lst f (n + 1))[0]? = some (.int .i64 (f 0)) := by simp [lst]
theorem marks_ok : ∀ (M : List Nat) (σ : AH), σ.lim = 0 → M.Nodup → (∀ m ∈ M, σ.get m = some .dfr) → ∃ σ', takeMarks σ M = some σ' ∧ ∀ i, i ∉ M → σ'.get i = σ.get i
  | [], σ, _, _, _ => ⟨σ, rfl, fun _ _ => rfl⟩
  | d :: M, σ, hl, hM, hd => by
    have hn := List.nodup_cons.1 hM
    have h1 := hd d (List.mem_cons_self ..)
    obtain ⟨σ', e1, e2⟩ := marks_ok M (σ.set d .dead) hl hn.2 fun m hm => by
      rw [AH.get_set_other _ _ _ _ (by intro e; subst e; exact hn.1 hm)]; exact hd m (List.mem_cons_of_mem _ hm)
    refine ⟨σ', by simp only [takeMarks, h1, hl, Nat.zero_le, if_true, e1], fun i hi => ?_⟩
    rw [e2 i fun h => hi (List.mem_cons_of_mem _ h), AH.get_set_other _ _ _ _ (by intro e; subst e; exact hi (List.mem_cons_self ..))]
theorem Cone_ok (nT nR nD : Bool) (T : List Int) (R : List Span) (a e : Span) (D : List Span) (hT : T.length < 2 ^ 62) (hR : R.length < 2 ^ 62) (hD : D.length < 2 ^ 62) :
    ans prog O 24 [eClk nT nR T R a e, vl eSpan nD D] = some (.tuple [vl eSpan (coneV T R a e D).1.isEmpty (coneV T R a e D).1, .int .i64 (coneV T R a e D).2]) := by
  refine fn_of' pl get24 (oo (by decide)) rfl rfl ?_
  by_cases hc : okClk T R a e
  · have hTl := (okT_of hc).1
    have hop := opened_ok nT nR nD T R a e D hT hR hD hc
    by_cases hdy : okDays T D
    · have hdl := hdy.1
      rw [if_pos hdy] at hop
      have h0 : askE T R a e D = 0 := by unfold askE; rw [if_pos hc, if_pos hdy]
      have hv : coneV T R a e D = (cones T R a e D D.length, 0) := by unfold coneV; rw [if_pos h0]
      rw [hv]
      simp (disch := omega) [hop, cells_iface, dfd_iface, one_iface, -Bool.exists_bool]
      refine lp_loop pl (fun k fr σ => ∃ (j : Nat) (v : AV) (M : List Nat), j + k = D.length ∧ fr = ⟨[(1, vl eSpan nD D), (4, .vsl true []), (5, .int .i64 0), (6, .ptr (some (1, 0))), (8, .ptr (some (2, 0))), (9, .ptr (some (3, 0))), (10, .ptr (some (4, 0))), (11, v), (37, .int .i64 D.length), (38, .int .i64 j)], M⟩ ∧ σ.lim = 0 ∧ 5 ≤ σ.next ∧
        σ.get 1 = some (.cells [vs nT T, vl eSpan nR R, .int .i64 a.lo, .int .i64 a.hi, .int .i64 e.lo, .int .i64 e.hi]) ∧ σ.get 2 = some (.cells [vLow nT nR T R a e]) ∧ σ.get 3 = some (.cells [vHigh nT nR T R a e]) ∧
        σ.get 4 = some (.cells [.int .i64 (coneAt T R a e D j).lo, .int .i64 (coneAt T R a e D j).hi]) ∧ Buf 5 2 eSpan σ v (cones T R a e D j) ∧ M.Nodup ∧ ∀ m ∈ M, 5 ≤ m ∧ σ.get m = some .dfr)
        ⟨D.length, 0, .vsl true [], [], by omega, rfl, by simp, by simp, by simp, by simp, by simp, by simp [coneAt], Buf.nil, .nil, by simp⟩ ?_
      rintro k _ σ ⟨j, v, M, hj, rfl, hl0, hn, hg1, hg2, hg3, hg4, hbuf, hM, hMd⟩
      by_cases hjl : j < D.length
      · have hds := hdy.2 j hjl
        unfold isIn at hds
        simp (disch := omega) [Und, hl0, hn, hg1, hg2, hg3, hg4, hjl, -Bool.exists_bool]
        refine degrees_ok ?_
        simp (disch := omega) [Und, -Bool.exists_bool]
        have ht0 := (okT_of hc).2.1 0 (by omega)
        have htl := (okT_of hc).2.1 (T.length - 1) (by omega)
        refine rg_of (h := 115) (xs := []) (ys := [.ptr (some (σ.next + 1 + 1, 0))]) rfl ?_
        show Call prog O (.fn 115) [.func (.yield (σ.next + 4)) [] [], .ptr (some (σ.next + 2, 0))] _ _
        refine degrees1_ok (lo := (nth D j).lo) (hi := (nth D j).hi) (by omega) (by omega) (by omega)
          (I := fun m s => YInv σ.next σ (envC σ.next (vl eSpan nD D) (.vsl true []) (.int .i64 0) (.ptr (some (1, 0))) (.ptr (some (4, 0))) v (.int .i64 j) (.int .i64 D.length) (.int .i64 j) (.func (.func 115) [] [.ptr (some (σ.next + 1 + 1, 0))])) (nth D j).lo (nth D j).hi
            (fun q => rt T (fun i => (nth R i).lo) ((nth D j).lo + q)) (fun q => rt T (fun i => (nth R i).hi) ((nth D j).lo + q)) m s)
          (fun m s hI => hI.box) (fun m s hI hm => yield_step hc rfl (by omega) hg2 hg3 hI (day_in hdy hjl hm).1 (day_in hdy hjl hm).2 (by omega)) ?_ ?_
        · refine ⟨by simp [hl0], by simp, ?_, ?_, ?_, ?_, .inl ⟨rfl, ?_, ?_⟩⟩
          · simp (disch := omega) [eqf1, eqf2]
          · simp (disch := omega) [eqf1, eqf2]
          · simp (disch := omega) [eqf1, eqf2]
          · intro k hk
            simp (disch := omega) [eqf1, eqf2]
          · simp (disch := omega) [eqf1, eqf2]
          · simp (disch := omega) [eqf1, eqf2]
        · intro σ2 hY
          obtain ⟨y0, y1, y2, y3, y4, y5, y6⟩ := hY
          refine ⟨_, _, _, _, _, _, y4, by simp, by rw [y0]; omega, ?_⟩
          obtain ⟨n, hn'⟩ : ∃ n : Nat, ((nth D j).hi - (nth D j).lo + 1).toNat = n + 1 := ⟨((nth D j).hi - (nth D j).lo).toNat, by omega⟩
          rw [hn'] at y6
          obtain ⟨i1, i2, hne, q1, q2, q3, q4, q5, q6⟩ := y6.resolve_left (by simp)
          have e1 : σ2.get 1 = _ := (y5 1 (by omega)).trans hg1
          have e4 : σ2.get 4 = _ := (y5 4 (by omega)).trans hg4
          have u0 := AH.get_lt q5
          have u1 := AH.get_lt q6
          simp (disch := omega) [Und, eqf1, eqf2, q3, q4, q5, q6, lst_get0, e1, e4, y0, -Bool.exists_bool]
          refine ends_call (f := fun q => rt T (fun i => (nth R i).lo) ((nth D j).lo + q)) (n := n + 1) (by simp (disch := omega) [eqf1, eqf2, q5]) (by omega) rfl ?_
          simp (disch := omega) [Und, eqf1, eqf2, q3, q4, q5, q6, lst_get0, e1, e4, y0, -Bool.exists_bool]
          refine ends_call (f := fun q => rt T (fun i => (nth R i).hi) ((nth D j).lo + q)) (n := n + 1) (by simp (disch := omega) [eqf1, eqf2, q6]) (by omega) rfl ?_
          have t1 := tab_min (fun q => rt T (fun i => (nth R i).lo) ((nth D j).lo + q)) n
          have t2 := tab_max (fun q => rt T (fun i => (nth R i).hi) ((nth D j).lo + q)) n
          simp only [Int.natCast_zero, Int.add_zero] at t1 t2
          have n1 : 1 < σ2.next := by omega
          have n4 : 4 < σ2.next := by omega
          simp (disch := omega) [Und, eqf1, eqf2, q3, q4, q5, q6, lst_get0, e1, e4, y0, t1, t2, n1, n4, -Bool.exists_bool]
          have en : n = ((nth D j).hi - (nth D j).lo).toNat := by omega
          have d1 : (dayR T R a (nth D j) j).lo = minF (fun q => rt T (fun i => (nth R i).lo) ((nth D j).lo + q)) n + a.lo * j := by
            unfold dayR; rw [← en]; exact minF_add _ _ n
          have d2 : (dayR T R a (nth D j) j).hi = maxF (fun q => rt T (fun i => (nth R i).hi) ((nth D j).lo + q)) n + a.hi * j := by
            unfold dayR; rw [← en]; exact maxF_add _ _ n
          have b1 := cone_bd hc hdy j (by omega)
          have b2 : (-160000 ≤ (dayR T R a (nth D j) j).lo ∧ (dayR T R a (nth D j) j).lo ≤ 160000) ∧ (-160000 ≤ (dayR T R a (nth D j) j).hi ∧ (dayR T R a (nth D j) j).hi ≤ 160000) := dayF_bd hc hdy hjl (by omega)
          have ha := hc.1.2.2.1
          unfold isIn at ha
          have p1 := mul_bd (a := a.lo) (b := (j : Int)) (A := 1000) (B := 59) (by omega) (by omega) (by omega) (by omega) (by omega)
          have p2 := mul_bd (a := a.hi) (b := (j : Int)) (A := 1000) (B := 59) (by omega) (by omega) (by omega) (by omega) (by omega)
          have x1 : w64 (w64 ((coneAt T R a e D j).lo + minF (fun q => rt T (fun i => (nth R i).lo) ((nth D j).lo + q)) n) + w64 (a.lo * j)) = (coneAt T R a e D (j + 1)).lo := by
            rw [w64_id (a.lo * j) (by omega) (by omega), w64_id ((coneAt T R a e D j).lo + _) (by omega) (by omega), w64_id _ (by omega) (by omega)]
            simp only [coneAt]; omega
          have x2 : w64 (w64 ((coneAt T R a e D j).hi + maxF (fun q => rt T (fun i => (nth R i).hi) ((nth D j).lo + q)) n) + w64 (a.hi * j)) = (coneAt T R a e D (j + 1)).hi := by
            rw [w64_id (a.hi * j) (by omega) (by omega), w64_id ((coneAt T R a e D j).hi + _) (by omega) (by omega), w64_id _ (by omega) (by omega)]
            simp only [coneAt]; omega
          rw [x1, x2]
          generalize hτ : (σ2.set (σ.next + 1 + 1 + 1 + 1) _).set 4 _ = τ
          have τl : τ.lim = 0 := by rw [← hτ]; exact y0
          have τn : τ.next = σ2.next := by rw [← hτ]; rfl
          have τg : ∀ i, i ≠ 4 → i ≠ σ.next + 4 → τ.get i = σ2.get i := fun i h1 h2 => by rw [← hτ, AH.get_set_other _ _ _ _ h1, AH.get_set_other _ _ _ _ h2]
          have τ4 : τ.get 4 = some (.cells [.int .i64 (coneAt T R a e D (j + 1)).lo, .int .i64 (coneAt T R a e D (j + 1)).hi]) := by rw [← hτ]; exact AH.get_set_same _ _ _ n4
          have hb2 : Buf 5 2 eSpan τ v (cones T R a e D j) := hbuf.keep fun i h1 h2 => by rw [τg i (by omega) (by omega)]; exact y5 i h2
          have hov : ∀ i ∈ obj v, ∃ cs, τ.get i = some (.cells cs) := by
            rcases hb2 with ⟨rfl, _⟩ | ⟨i, rfl, _, h3, _⟩
            · intro i hi; simp [obj] at hi
            · intro q hq; simp [obj] at hq; subst hq; exact ⟨_, h3⟩
          rw [← τn]
          refine hb2.push encSpan (by omega) (by omega) (coneAt T R a e D (j + 1)) (by rw [cones_len]; simp only [topBytes]; omega) rfl fun v' σ'' z1 z2 => ?_
          have hlim := z2.lim
          have hnext := z2.next
          simp (disch := omega) [-Bool.exists_bool]
          have hdf : ∀ m, 5 ≤ m → m < σ2.next → m ≠ σ.next + 4 → σ2.get m = some .dfr → σ''.get m = some .dfr := fun m h1 h2 h3 h4 => by
            have h5 : τ.get m = some .dfr := by rw [τg m (by omega) h3]; exact h4
            rw [z2.only.get m (by omega) (fun hm => by obtain ⟨cs, hcs⟩ := hov m hm; rw [h5] at hcs; cases hcs)]
            exact h5
          have hlt : ∀ m ∈ M, m < σ.next := fun m hm => AH.get_lt (hMd m hm).2
          refine ⟨k - 1, by omega, j + 1, by omega, v', (σ.next + 1 + 1 + 1) :: M, ⟨⟨rfl, by omega⟩, rfl⟩, by omega, by omega, ?_, ?_, ?_, ?_, by rw [cones_succ]; exact z1, List.nodup_cons.2 ⟨fun hm => by have := hlt _ hm; omega, hM⟩, fun m hm => ?_⟩
          · rw [z2.get 1 (by omega), τg 1 (by omega) (by omega)]; exact e1
          · rw [z2.get 2 (by omega), τg 2 (by omega) (by omega), y5 2 (by omega)]; exact hg2
          · rw [z2.get 3 (by omega), τg 3 (by omega) (by omega), y5 3 (by omega)]; exact hg3
          · rw [z2.get 4 (by omega)]; exact τ4
          · rcases List.mem_cons.1 hm with rfl | hm
            · exact ⟨by omega, hdf _ (by omega) (by omega) (by omega) y3⟩
            · have h1 := hMd m hm
              have h2 := hlt m hm
              exact ⟨h1.1, hdf m h1.1 (by omega) (by omega) (by rw [y5 m h2]; exact h1.2)⟩
      · obtain rfl : j = D.length := by omega
        simp (disch := omega) [Und, hl0, hn, hg1, -Bool.exists_bool]
        obtain ⟨s, e1, e2⟩ := marks_ok M σ hl0 hM fun m hm => (hMd m hm).2
        have hb : Buf 5 2 eSpan s v (cones T R a e D D.length) := by
          rcases hbuf with h | ⟨i, h1, h2, h3, h4⟩
          · exact .inl h
          · exact .inr ⟨i, h1, h2, by rw [e2 i fun h => by have := (hMd i h).2; rw [h3] at this; cases this]; exact h3, h4⟩
        refine ⟨s, e1, [v, .int .i64 0], rfl, ?_⟩
        have hf := hb.fz encSpan 5 (fun x _ => by simp [eSpan])
        simp only [oneOf, fzV_tuple, List.map_cons, List.map_nil]
        rw [hf]
        rfl
    · rw [if_neg hdy] at hop
      have h0 : askE T R a e D = 71 := by unfold askE; rw [if_pos hc, if_neg hdy]
      have hv : coneV T R a e D = ([], 71) := by unfold coneV; rw [h0]; rfl
      rw [hv]
      simp (disch := omega) [hop]
      rfl
  · have hop := opened_bad nT nR nD T R a e D hT hR hD hc
    have h0 : askE T R a e D = 70 := by unfold askE; rw [if_neg hc]
    have hv : coneV T R a e D = ([], 70) := by unfold coneV; rw [h0]; rfl
    rw [hv]
    simp (disch := omega) [hop]
    rfl
end Go.Oct.Cry
