/- ClockNarrow. -/
import Derived.Test.YtpccnjgeddjfjaaOClockNarW
import Derived.Test.YtpccnjgeddjfjaaOClockCho
import Derived.Test.YtpccnjgeddjfjaaOClockErr2
import Derived.Test.YtpccnjgeddjfjaaOT3
set_option maxRecDepth 100000
set_option maxHeartbeats 2000000
set_option linter.unusedVariables false
set_option linter.unusedSimpArgs false
namespace Go.Oct.Clock
open Go.Oct
def parts (b : List Int) (l : List Span) (c o n : Nat) : List Span := (List.range n).map fun i => part b (nth l i) ((c : Int) * i + o)
theorem parts_succ (b : List Int) (l : List Span) (c o n : Nat) : parts b l c o (n + 1) = parts b l c o n ++ [part b (nth l n) ((c : Int) * n + o)] := by unfold parts; rw [List.range_succ, List.map_append]; rfl
theorem parts_len (b : List Int) (l : List Span) (c o n : Nat) : (parts b l c o n).length = n := by unfold parts; simp
theorem nth_parts {b : List Int} {l : List Span} {c o n i : Nat} (h : i < n) : nth (parts b l c o n) i = part b (nth l i) ((c : Int) * i + o) := by
  have h2 := nth_get? (xs := parts b l c o n) (i := i) (by rw [parts_len]; exact h)
  unfold parts at h2 ⊢
  rw [List.getElem?_map, List.getElem?_range h] at h2
  simpa using h2.symm
theorem flatSp : flatE eSpan := fun x c hc k f => by
  simp only [eSpan, cells_agg, List.mem_cons, List.not_mem_nil, or_false] at hc
  rcases hc with rfl | rfl <;> exact ⟨rfl, rfl⟩
theorem nthC {T : List Int} {R : List Span} {a e : Span} {D : List Span} {n i : Nat} (h : i < n) : nth (cones T R a e D n) i = coneAt T R a e D (i + 1) := by
  have h2 := nth_get? (xs := cones T R a e D n) (i := i) (by rw [cones_len]; exact h)
  unfold cones at h2 ⊢
  rw [List.getElem?_map, List.getElem?_range h] at h2
  simpa using h2.symm
theorem ClockNarrow_main (nT nR nD nb : Bool) (T : List Int) (R : List Span) (a e : Span) (D : List Span) (b : List Int) (hT : T.length < 2 ^ 62) (hR : R.length < 2 ^ 62) (hD : D.length < 2 ^ 62) (hb : b.length < 2 ^ 62) :
    ans prog O 9 [eClk nT nR T R a e, vl eSpan nD D, vs nb b] = some (.bool true) := by
  have hco := Cone_ok nT nR nD T R a e D hT hR hD
  refine fn_of' pl get9 (oo (by decide)) rfl rfl ?_
  by_cases h0 : askE T R a e D = 0
  · obtain ⟨hc, hdy⟩ := ask0 h0
    have hdl := hdy.1
    have hTl := (okT_of hc).1
    have hRl : R.length = T.length := by have := hc.1.2.1; omega
    have hcv : coneV T R a e D = (cones T R a e D D.length, 0) := by unfold coneV; rw [if_pos h0]
    rw [hcv] at hco
    have ha := hc.1.2.2.1
    have he := hc.1.2.2.2
    unfold isIn at ha he
    have q1 : ¬ (60 : Int) < D.length := by omega
    simp (disch := omega) [hco, hc, q1]
    refine part_call (nb := nb) (by simp) hb (by omega) (by omega) (by omega) (by omega) (by omega) rfl ?_
    simp (disch := omega) [eq_span]
    refine part_call (nb := nb) (by simp) hb (by omega) (by omega) (by omega) (by omega) (by omega) rfl ?_
    simp (disch := omega) [eq_span, -Bool.exists_bool]
    refine lp_loop pl (fun k fr σ => ∃ (j : Nat) (v : AV), j + k = R.length ∧ fr = ⟨[(1, vl eSpan nD D), (3, .ptr (some (0, 0))), (7, vl eSpan (cones T R a e D D.length).isEmpty (cones T R a e D D.length)), (9, .func (.func 36) [] [.ptr (some (1, 0))]), (10, .ptr (some (2, 0))), (11, .int .i64 j)], []⟩ ∧ σ.lim = 0 ∧ 3 ≤ σ.next ∧
      σ.get 0 = some (.cells [vs nT T, vl eSpan nR R, .int .i64 a.lo, .int .i64 a.hi, .int .i64 e.lo, .int .i64 e.hi]) ∧ σ.get 1 = some (.cells [vs nb b]) ∧
      σ.get 2 = some (.cells [vs nT T, v, .int .i64 (part b a 0).lo, .int .i64 (part b a 0).hi, .int .i64 (part b e 2).lo, .int .i64 (part b e 2).hi]) ∧ Buf 3 2 eSpan σ v (parts b R 1 4 j))
      ⟨R.length, 0, .vsl true [], by omega, rfl, by simp, by simp, by simp, by simp, by simp, Buf.nil⟩ ?_
    rintro k _ σ ⟨j, v, hj, rfl, hl0, hn, hg0, hg1, hg2, hbuf⟩
    by_cases hjl : j < R.length
    · have hr := (hc.2 j (by omega)).2.2
      unfold isIn at hr
      have hu := under_self hl0
      have n0 : 0 < σ.next := by omega
      have n2 : 2 < σ.next := by omega
      simp (disch := omega) [Und, hl0, hn, hg0, hg1, hg2, hjl, hu, n0, n2, -Bool.exists_bool]
      refine part_call (nb := nb) (by simpa using hg1) hb (by omega) (by omega) (by omega) (by omega) (by omega) rfl ?_
      simp (disch := omega) [Und, hl0, hn, hg0, hg1, hg2, hjl, hu, n0, n2, eq_span, -Bool.exists_bool]
      refine hbuf.push encSpan (by omega) (by omega) (part b (nth R j) ((j : Int) + 4)) (by rw [parts_len]; simp only [topBytes]; omega) rfl fun v' σ' z1 z2 => ?_
      have hlim := z2.lim
      have hnext := z2.next
      have g0 := (z2.get 0 (by omega)).trans hg0
      have g1 := (z2.get 1 (by omega)).trans hg1
      have g2 := (z2.get 2 (by omega)).trans hg2
      have l' : σ'.lim = 0 := by omega
      have m2 : 2 < σ'.next := by omega
      obtain ⟨w1, w2, w3⟩ := bufVal z1
      have ep : ((1 : Nat) : Int) * j + (4 : Nat) = (j : Int) + 4 := by omega
      simp (disch := omega) [g0, g1, g2, l', m2, w1, w2, w3, -Bool.exists_bool]
      exact ⟨k - 1, by omega, j + 1, by omega, by omega, by omega, by rw [parts_succ, ep]; exact z1.keep fun i h1 h2 => AH.get_set_other _ _ _ _ (by omega)⟩
    · obtain rfl : j = R.length := by omega
      simp (disch := omega) [Und, hl0, hn, hg0, hg1, hg2, -Bool.exists_bool]
      refine lp_loop pl (fun k fr σ => ∃ (j : Nat) (w : AV), j + k = D.length ∧ fr = ⟨[(1, vl eSpan nD D), (7, vl eSpan (cones T R a e D D.length).isEmpty (cones T R a e D D.length)), (9, .func (.func 36) [] [.ptr (some (1, 0))]), (10, .ptr (some (2, 0))), (12, w), (13, .int .i64 j)], []⟩ ∧ σ.lim = 0 ∧ 3 ≤ σ.next ∧
        σ.get 1 = some (.cells [vs nb b]) ∧ σ.get 2 = some (.cells [vs nT T, v, .int .i64 (part b a 0).lo, .int .i64 (part b a 0).hi, .int .i64 (part b e 2).lo, .int .i64 (part b e 2).hi]) ∧
        Buf 3 2 eSpan σ v (parts b R 1 4 R.length) ∧ Buf 3 2 eSpan σ w (parts b D 2 0 j) ∧ ∀ i ∈ obj v, i ∉ obj w)
        ⟨D.length, 0, .vsl true [], by omega, rfl, hl0, hn, hg1, hg2, hbuf, Buf.nil, by simp [obj]⟩ ?_
      rintro k2 _ σ1 ⟨j, w, hj2, rfl, l0, l1, e1, e2, hv, hw, hvw⟩
      by_cases hjl : j < D.length
      · have hr := hdy.2 j hjl
        unfold isIn at hr
        have ht0 := (okT_of hc).2.1 0 (by omega)
        have htl := (okT_of hc).2.1 (T.length - 1) (by omega)
        simp (disch := omega) [Und, l0, l1, e1, e2, hjl, -Bool.exists_bool]
        refine part_call (nb := nb) (by simpa using e1) hb (by omega) (by omega) (by omega) (by omega) (by omega) rfl ?_
        simp (disch := omega) [Und, l0, l1, e1, e2, hjl, eq_span, -Bool.exists_bool]
        refine hw.push encSpan (by omega) (by omega) (part b (nth D j) (2 * (j : Int))) (by rw [parts_len]; simp only [topBytes]; omega) rfl fun v' σ' z1 z2 => ?_
        have hlim := z2.lim
        have hnext := z2.next
        have g1 := (z2.get 1 (by omega)).trans e1
        have g2 := (z2.get 2 (by omega)).trans e2
        have hvl : ∀ i ∈ obj v, i < σ1.next ∧ 3 ≤ i := by
          rcases hv with ⟨rfl, _⟩ | ⟨i, rfl, h3, h4, _⟩
          · intro i hi; simp [obj] at hi
          · intro q hq; simp [obj] at hq; subst hq; exact ⟨AH.get_lt h4, h3⟩
        have ep : ((2 : Nat) : Int) * j + (0 : Nat) = 2 * (j : Int) := by omega
        simp (disch := omega) [-Bool.exists_bool]
        refine ⟨k2 - 1, by omega, j + 1, by omega, v', ⟨rfl, by omega⟩, by omega, by omega, g1, g2, ?_, by rw [parts_succ, ep]; exact z1, fun i hi hi2 => ?_⟩
        · rcases hv with h | ⟨i, q1, q2, q3, q4⟩
          · exact .inl h
          · have hi : i ∈ obj v := by rw [q1]; simp [obj]
            exact .inr ⟨i, q1, q2, by rw [z2.only.get i (hvl i hi).1 (hvw i hi)]; exact q3, q4⟩
        · rcases z2.fresh i hi2 with h | h
          · exact hvw i hi h
          · have := (hvl i hi).1; omega
      · obtain rfl : j = D.length := by omega
        simp (disch := omega) [Und, l0, l1, e1, e2, -Bool.exists_bool]
        have hv1 : closed 7 v = false := by
          rcases hv with ⟨_, h⟩ | ⟨i, rfl, _⟩
          · have := parts_len b R 1 4 R.length; rw [h] at this; simp at this; omega
          · rfl
        have sR : ∀ i, i < R.length → sub (nth (parts b R 1 4 R.length) i) (nth R i) := fun i hi => by
          rw [nth_parts hi]
          have := (hc.2 i (by omega)).2.2
          unfold isIn at this
          exact part_sub this.2.1
        have sD : ∀ i, i < D.length → sub (nth (parts b D 2 0 D.length) i) (nth D i) := fun i hi => by
          rw [nth_parts hi]
          have := hdy.2 i hi
          unfold isIn at this
          exact part_sub this.2.1
        have sa : sub (part b a 0) a := part_sub ha.2.1
        have se : sub (part b e 2) e := part_sub he.2.1
        have hc' := sub_clk hc (parts_len b R 1 4 R.length) sR sa se
        have hdy' := sub_days hdy (parts_len b D 2 0 D.length) sD
        have hsub := sub_cone hc hdy sR sa se sD
        have hco' := Cone_ok nT (parts b R 1 4 R.length).isEmpty (parts b D 2 0 D.length).isEmpty T (parts b R 1 4 R.length) (part b a 0) (part b e 2) (parts b D 2 0 D.length) hT (by rw [parts_len]; exact hR) (by rw [parts_len]; exact hD)
        have h0' : askE T (parts b R 1 4 R.length) (part b a 0) (part b e 2) (parts b D 2 0 D.length) = 0 := by unfold askE; rw [if_pos hc', if_pos hdy']
        have hcv' : coneV T (parts b R 1 4 R.length) (part b a 0) (part b e 2) (parts b D 2 0 D.length) = (cones T (parts b R 1 4 R.length) (part b a 0) (part b e 2) (parts b D 2 0 D.length) D.length, 0) := by unfold coneV; rw [if_pos h0', parts_len]
        rw [hcv'] at hco'
        generalize parts b R 1 4 R.length = R' at hv sR hc' hco' hsub
        generalize parts b D 2 0 D.length = D' at hw sD hdy' hco' hsub
        refine pc_kill (.cons (SnapK.snap (SnapK.agg (.cons (SnapK.vl _ _ _ _ _) (.cons ⟨hv.ids flatSp 5, fun T hT => hv.snap encSpan flatSp hT 5⟩ (.cons (SnapK.int _ _ _ _) (.cons (SnapK.int _ _ _ _) (.cons (SnapK.int _ _ _ _) (.cons (SnapK.int _ _ _ _) .nil)))))))) (.cons (hw.snapS encSpan flatSp) .nil)) (fun h => by rw [hv1] at h; simp at h) (by simp) (oo (args := []) (by decide)).1 (fun i _ => by omega) hco' fun σ2 _ => ?_
        have cl1 : (cones T R a e D D.length).length = D.length := cones_len ..
        have cl2 : (cones T R' (part b a 0) (part b e 2) D' D.length).length = D.length := cones_len ..
        simp (disch := omega) [cl1, cl2]
        refine lp_count pl D.length (fun j => [(7, vl eSpan (cones T R a e D D.length).isEmpty (cones T R a e D D.length)), (14, vl eSpan (cones T R' (part b a 0) (part b e 2) D' D.length).isEmpty (cones T R' (part b a 0) (part b e 2) D' D.length)), (15, .int .i64 j)]) (fun _ => σ2) (fun _ => True) ⟨rfl, rfl, trivial⟩ ?_
        intro j hj _
        by_cases hjl : j < D.length
        · have n1 : nth (cones T R a e D D.length) j = coneAt T R a e D (j + 1) := nthC hjl
          have n2 : nth (cones T R' (part b a 0) (part b e 2) D' D.length) j = coneAt T R' (part b a 0) (part b e 2) D' (j + 1) := nthC hjl
          have hs := hsub (j + 1) (by omega)
          simp (disch := omega) [Und, cl1, cl2, n1, n2, hjl]
          exact hs
        · simp (disch := omega) [Und, cl1, cl2, hjl]
  · have hcv : coneV T R a e D = ([], askE T R a e D) := by unfold coneV; rw [if_neg h0]
    rw [hcv] at hco
    have hd2 : ¬ askE T R a e D = 0 := h0
    simp (disch := omega) [hco, h0]
theorem ClockNarrow_ok (nT nR : Bool) (T : List Int) (R : List Span) (a e : Span) (nD : Bool) (D : List Span) (nb : Bool) (b : List Int) {x0 x1 x2 x3 : AV}
    (h0 : Slice (AV.int .i64) i64 x0 nT T) (h1 : Slice eSpan (fun s => i64 s.lo ∧ i64 s.hi) x1 nR R) (h2 : Slice eSpan (fun s => i64 s.lo ∧ i64 s.hi) x2 nD D) (h3 : Slice (AV.int .i64) i64 x3 nb b) :
    ans prog O 9 [eClk nT nR T R a e, vl eSpan nD D, vs nb b] = some (.bool true) := by
  have := h0.len; have := h1.len; have := h2.len; have := h3.len
  exact ClockNarrow_main nT nR nD nb T R a e D b (by omega) (by omega) (by omega) (by omega)
end Go.Oct.Clock
